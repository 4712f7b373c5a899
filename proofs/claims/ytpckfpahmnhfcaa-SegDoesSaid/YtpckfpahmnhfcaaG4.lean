/- The ghost machine: regions that draw their order. A head of operations that leave old blocks alone may run in any order; a tail runs behind it in the order of the text. -/
import Derived.Test.YtpckfpahmnhfcaaG3
import Derived.StillTail
namespace Go.Proofs.Ytpckfpahmnhfcaa.G
open Go Go.RowKit
set_option linter.unusedVariables false
set_option linter.unusedSimpArgs false

/-! ### the check, by computation -/
/-- The slots that an operation looks at: its operands, and its guard's. -/
def looks (ops : Array Oper) (o : Oper) : List Tmp :=
  (o.op.operands.toList.filterMap fun x => match x with | .tmp t => some t | _ => none) ++ (match o.guard with | some (j, _) => (match (ops[j]?).bind (·.dst) with | some d => [d] | none => []) | none => [])

def just (ops : Array Oper) (C : Array Nat) (i d : Nat) : Bool :=
  match ops[i]? with
  | some o => o.after.any fun e => Region.binds .any e && decide (e.on < i) && (e.on == d || (decide (d < e.on) && (C.getD e.on 0).testBit d))
  | none => false

def drawOk (l : List Oper) (n : Nat) : Bool :=
  let ops := l.toArray
  let N := l.length
  let C := Region.before ops
  decide (n ≤ N) &&
  (List.range N).all (fun i => match ops[i]? with | some o => o.after.all (fun e => !Region.binds .any e || decide (e.on < i)) | none => true) &&
  (List.range N).all (fun i => (List.range i).all (fun d => !(C.getD i 0).testBit d || just ops C i d)) &&
  (List.range n).all (fun i => match ops[i]? with
    | some o => (List.range n).all (fun j => match (ops[j]?).bind (·.dst) with
      | some d => (!(looks ops o).contains d || (decide (j < i) && (C.getD i 0).testBit j)) && (j == i || !(o.dst == some d))
      | none => true)
    | none => true) &&
  (List.range N).all (fun i => decide (i < n) || (List.range i).all (fun d => (C.getD i 0).testBit d)) &&
  Region.seqB .any ops (N - n) n (Array.replicate n true ++ Array.replicate (N - n) false)

section check
variable {l : List Oper} {n : Nat}
theorem drawOk_spec (h : drawOk l n = true) :
    n ≤ l.length ∧ (∀ (i : Nat) (o : Oper), l.toArray[i]? = some o → ∀ e ∈ o.after, Region.binds .any e = true → e.on < i) ∧
    (∀ i d, i < l.length → d < i → ((Region.before l.toArray).getD i 0).testBit d = true → just l.toArray (Region.before l.toArray) i d = true) ∧
    (∀ (i j : Nat) (o : Oper) (d : Tmp), i < n → j < n → l.toArray[i]? = some o → (l.toArray[j]?).bind (·.dst) = some d → ((looks l.toArray o).contains d = true → j < i ∧ ((Region.before l.toArray).getD i 0).testBit j = true) ∧ (j ≠ i → o.dst ≠ some d)) ∧
    (∀ i, n ≤ i → i < l.length → ∀ d, d < i → ((Region.before l.toArray).getD i 0).testBit d = true) ∧
    Region.seqB .any l.toArray (l.length - n) n (Array.replicate n true ++ Array.replicate (l.length - n) false) = true := by
  simp only [drawOk, Bool.and_eq_true, decide_eq_true_eq] at h
  obtain ⟨⟨⟨⟨⟨h1, h2⟩, h3⟩, h4⟩, h5⟩, h6⟩ := h
  refine ⟨h1, fun i o ho e he hb => ?_, fun i d hi hd hc => ?_, fun i j o d hi hj ho hd => ?_, fun i hi hN d hd => ?_, h6⟩
  · have hi : i < l.length := by simpa using (Array.getElem?_eq_some_iff.1 ho).1
    have := List.all_eq_true.1 h2 i (List.mem_range.2 hi)
    rw [ho] at this
    have := (Array.all_eq_true_iff_forall_mem.1 this) e he
    simpa [hb] using this
  · have := List.all_eq_true.1 (List.all_eq_true.1 h3 i (List.mem_range.2 hi)) d (List.mem_range.2 hd)
    simp only [Bool.or_eq_true, Bool.not_eq_true'] at this
    rcases this with h | h
    · rw [hc] at h; cases h
    · exact h
  · have := List.all_eq_true.1 h4 i (List.mem_range.2 hi)
    rw [ho] at this
    have := List.all_eq_true.1 this j (List.mem_range.2 hj)
    rw [hd] at this
    simp only [Bool.and_eq_true, Bool.or_eq_true, Bool.not_eq_true', decide_eq_true_eq, beq_iff_eq] at this
    refine ⟨fun hc => ?_, fun hne he => ?_⟩
    · rcases this.1 with h | h
      · rw [hc] at h; cases h
      · exact h
    · rcases this.2 with h | h
      · exact hne h
      · rw [he] at h; simp at h
  · have := List.all_eq_true.1 h5 i (List.mem_range.2 hN)
    simp only [Bool.or_eq_true, decide_eq_true_eq] at this
    rcases this with h | h
    · omega
    · exact List.all_eq_true.1 h d (List.mem_range.2 hd)

/-- What is listed has its forerunners listed. -/
def Down (ops : Array Oper) (listed : Array Bool) : Prop := ∀ (i : Nat) (o : Oper), ops[i]? = some o → listed.getD i false = true → ∀ e ∈ o.after, Region.binds .any e = true → listed.getD e.on false = true

theorem listed_of_before (hj : ∀ i d, i < l.length → d < i → ((Region.before l.toArray).getD i 0).testBit d = true → just l.toArray (Region.before l.toArray) i d = true) {listed : Array Bool} (hd : Down l.toArray listed) :
    ∀ (i : Nat) (o : Oper), l.toArray[i]? = some o → (∀ e ∈ o.after, Region.binds .any e = true → listed.getD e.on false = true) → ∀ d, d < i → ((Region.before l.toArray).getD i 0).testBit d = true → listed.getD d false = true := by
  intro i
  induction i using Nat.strongRecOn with
  | _ i ih =>
    intro o ho hall d hdi hb
    have hi : i < l.length := by simpa using (Array.getElem?_eq_some_iff.1 ho).1
    have := hj i d hi hdi hb
    unfold just at this
    rw [ho] at this
    rw [Array.any_eq_true] at this
    obtain ⟨q, hq, h2⟩ := this
    have he : o.after[q] ∈ o.after := Array.getElem_mem hq
    simp only [Bool.and_eq_true, decide_eq_true_eq, Bool.or_eq_true, beq_iff_eq] at h2
    obtain ⟨⟨g1, g2⟩, g3⟩ := h2
    rcases g3 with g3 | g3
    · rw [← g3]; exact hall _ he g1
    · have hlst := hall _ he g1
      have hlt : o.after[q].on < l.length := by omega
      have ho' : l.toArray[o.after[q].on]? = some (l[o.after[q].on]) := by simp [hlt]
      exact ih _ g2 _ ho' (hd _ _ ho' hlst) d g3.1 g3.2
end check

theorem wpAny_more {P : Program} {md : Region.Mode} {ops : Array Oper} {Q : Exit → Act → World → Prop} : ∀ (f : Nat) (listed : Array Bool) (a : Act) (w : World), wpAny P md ops Q f listed a w → wpAny P md ops Q (f + 1) listed a w
  | 0, listed, a, w, h => wpAny_done h.1 h.2 1
  | f + 1, listed, a, w, h => ⟨h.1, fun i hi => wpOp_mono (fun a w h => wpAny_more f _ a w h) (h.2 i hi)⟩
theorem wpAny_add {P : Program} {md : Region.Mode} {ops : Array Oper} {Q : Exit → Act → World → Prop} {f : Nat} {listed : Array Bool} {a : Act} {w : World} (h : wpAny P md ops Q f listed a w) : ∀ m, wpAny P md ops Q (m + f) listed a w
  | 0 => by rw [Nat.zero_add]; exact h
  | m + 1 => by rw [Nat.add_right_comm]; exact wpAny_more _ _ _ _ (wpAny_add h m)

theorem filter_less {α : Type} (p q : α → Bool) : ∀ (l : List α) (x : α), (∀ y ∈ l, q y = true → p y = true) → x ∈ l → p x = true → q x = false → (l.filter q).length < (l.filter p).length
  | [], x, _, hx, _, _ => by cases hx
  | y :: l, x, hpq, hx, hp, hq => by
    have hle : (l.filter q).length ≤ (l.filter p).length := by
      have : ∀ (l : List α), (∀ y ∈ l, q y = true → p y = true) → (l.filter q).length ≤ (l.filter p).length := by
        intro l
        induction l with
        | nil => simp
        | cons z l ih =>
          intro h
          have := ih (fun y hy => h y (by simp [hy]))
          simp only [List.filter_cons]
          cases hqz : q z with
          | false => cases hpz : p z <;> simp <;> omega
          | true => simp [h z (by simp) hqz]; omega
      exact this l (fun y hy => hpq y (by simp [hy]))
    rcases List.mem_cons.1 hx with rfl | hx
    · simp [List.filter_cons, hp, hq]; omega
    · have ih := filter_less p q l x (fun y hy => hpq y (by simp [hy])) hx hp hq
      simp only [List.filter_cons]
      cases hqy : q y with
      | false => cases hpy : p y <;> simp <;> omega
      | true => simp [hpq y (by simp) hqy]; omega

/-! ### the head, walked in the order of the text -/
def putL (ts : List AV) (dst : Option Tmp) (x : AV) : List AV :=
  match dst with
  | some d => ts.set d x
  | none => ts

def awantedL (ops : Array Oper) (ts : List AV) (o : Oper) : Option Bool := awanted ops ⟨ts, [], []⟩ o

abbrev HRes := AV × Option Blk

inductive Heads (P : Program) (ops : Array Oper) (hp : AHeap) : List Oper → List AV → Nat → List HRes → List AV → Prop
  | nil {ts s} : Heads P ops hp [] ts s [] ts
  | quiet {o os ts s x rs te} (hw : awantedL ops ts o = some true) (hh : AHead P o (evalL ts) hp x none) (hr : Heads P ops hp os (putL ts o.dst x) s rs te) : Heads P ops hp (o :: os) ts s ((x, none) :: rs) te
  | new {o os ts s x Bn rs te} (hw : awantedL ops ts o = some true) (hh : AHead P o (evalL ts) hp x (some (s, Bn))) (hr : Heads P ops hp os (putL ts o.dst x) (s + 1) rs te) : Heads P ops hp (o :: os) ts s ((x, some Bn) :: rs) te
  | skip {o os ts s rs te} (hw : awantedL ops ts o = some false) (hr : Heads P ops hp os (putL ts o.dst .undef) s rs te) : Heads P ops hp (o :: os) ts s ((.undef, none) :: rs) te

/-- The new blocks, those of what is listed. -/
def slotsL (listed : Nat → Bool) : Nat → List HRes → AHeap
  | _, [] => []
  | i, (_, none) :: r => slotsL listed (i + 1) r
  | i, (_, some B) :: r => (if listed i then some B else none) :: slotsL listed (i + 1) r
/-- Where the block of the i-th result lies. -/
def slotOf (s : Nat) : List HRes → Nat → Nat
  | [], _ => s
  | _, 0 => s
  | (_, none) :: r, i + 1 => slotOf s r i
  | (_, some _) :: r, i + 1 => slotOf (s + 1) r i
def newsL (R : List HRes) : AHeap := slotsL (fun _ => true) 0 R

theorem slotsL_length (f g : Nat → Bool) : ∀ (R : List HRes) (i j : Nat), (slotsL f i R).length = (slotsL g j R).length
  | [], _, _ => rfl
  | (_, none) :: r, i, j => slotsL_length f g r (i + 1) (j + 1)
  | (_, some _) :: r, i, j => by simp [slotsL, slotsL_length f g r (i + 1) (j + 1)]
theorem slotsL_congr (f g : Nat → Bool) : ∀ (R : List HRes) (i : Nat), (∀ j, i ≤ j → j < i + R.length → f j = g j) → slotsL f i R = slotsL g i R
  | [], _, _ => rfl
  | (_, none) :: r, i, h => slotsL_congr f g r (i + 1) (fun j h1 h2 => h j (by omega) (by simp; omega))
  | (_, some _) :: r, i, h => by
    simp only [slotsL, h i (Nat.le_refl _) (by simp), slotsL_congr f g r (i + 1) (fun j h1 h2 => h j (by omega) (by simp; omega))]
theorem slotsL_all (f : Nat → Bool) (R : List HRes) (h : ∀ j, j < R.length → f j = true) : slotsL f 0 R = newsL R :=
  slotsL_congr _ _ R 0 (fun j _ hj => by rw [h j (by simpa using hj)])

theorem slotOf_ge : ∀ (R : List HRes) (s i : Nat), s ≤ slotOf s R i
  | [], s, i => by cases i <;> exact Nat.le_refl _
  | (_, none) :: r, s, 0 => Nat.le_refl _
  | (_, some _) :: r, s, 0 => Nat.le_refl _
  | (_, none) :: r, s, i + 1 => slotOf_ge r s i
  | (_, some _) :: r, s, i + 1 => Nat.le_trans (Nat.le_succ s) (slotOf_ge r (s + 1) i)

/-- Listing the i-th result's operation fills its place, and leaves the others. -/
theorem slotsL_set (f : Nat → Bool) : ∀ (R : List HRes) (i0 s i : Nat) (x : AV) (B : Blk), R[i]? = some (x, some B) →
    slotOf s R i - s < (slotsL f i0 R).length ∧
    (slotsL (fun j => if j = i0 + i then true else f j) i0 R)[slotOf s R i - s]? = some (some B) ∧
    (f (i0 + i) = false → (slotsL f i0 R)[slotOf s R i - s]? = some none) ∧
    ∀ k, k ≠ slotOf s R i - s → (slotsL (fun j => if j = i0 + i then true else f j) i0 R)[k]? = (slotsL f i0 R)[k]?
  | [], _, _, _, _, _, h => by simp at h
  | (y, b) :: r, i0, s, 0, x, B, h => by
    simp at h
    obtain ⟨rfl, rfl⟩ := h
    have hc : slotsL (fun j => if j = i0 then true else f j) (i0 + 1) r = slotsL f (i0 + 1) r := slotsL_congr _ _ r (i0 + 1) (fun j h1 _ => by simp; omega)
    refine ⟨by simp [slotOf, slotsL], by simp [slotOf, slotsL], fun hf => ?_, fun k hk => ?_⟩
    · have : f i0 = false := hf
      simp [slotOf, slotsL, this]
    · simp only [slotOf, Nat.sub_self] at hk
      simp only [slotsL, Nat.add_zero, hc]
      cases k with
      | zero => exact absurd rfl hk
      | succ k => simp
  | (y, none) :: r, i0, s, i + 1, x, B, h => by
    have ih := slotsL_set f r (i0 + 1) s i x B (by simpa using h)
    rw [show i0 + 1 + i = i0 + (i + 1) by omega] at ih
    exact ih
  | (y, some C) :: r, i0, s, i + 1, x, B, h => by
    have ih := slotsL_set f r (i0 + 1) (s + 1) i x B (by simpa using h)
    rw [show i0 + 1 + i = i0 + (i + 1) by omega] at ih
    obtain ⟨h1, h2, h3, h4⟩ := ih
    have hge := slotOf_ge r (s + 1) i
    have e : slotOf s ((y, some C) :: r) (i + 1) - s = (slotOf (s + 1) r i - (s + 1)) + 1 := by simp only [slotOf]; omega
    have hne : (i0 = i0 + (i + 1)) = False := by simp
    refine ⟨by rw [e]; simp [slotsL]; exact h1, by rw [e]; simp only [slotsL, List.getElem?_cons_succ]; exact h2, fun hf => by rw [e]; simp only [slotsL, List.getElem?_cons_succ]; exact h3 hf, fun k hk => ?_⟩
    rw [e] at hk
    simp only [slotsL, hne, if_false]
    cases k with
    | zero => simp
    | succ k => simp only [List.getElem?_cons_succ]; exact h4 k (by omega)


/-- What one operation of the head is known to do. -/
def HeadAt (P : Program) (ops : Array Oper) (hp : AHeap) (o : Oper) (ts : List AV) (slot : Nat) (r : HRes) : Prop :=
  (awantedL ops ts o = some true ∧ AHead P o (evalL ts) hp r.1 (r.2.map fun B => (slot, B))) ∨ (awantedL ops ts o = some false ∧ r = (.undef, none))

theorem putL_length (ts : List AV) (d : Option Tmp) (x : AV) : (putL ts d x).length = ts.length := by cases d <;> simp [putL]
theorem putL_ne {ts : List AV} {d : Option Tmp} {x : AV} {t : Tmp} (h : d ≠ some t) : (putL ts d x)[t]? = ts[t]? := by
  cases d with
  | none => rfl
  | some d => simp only [putL]; rw [List.getElem?_set_ne]; exact fun e => h (by rw [e])

theorem heads_spec {P : Program} {ops : Array Oper} {hp : AHeap} {os : List Oper} {ts te : List AV} {s : Nat} {R : List HRes} (h : Heads P ops hp os ts s R te) :
    R.length = os.length ∧ te.length = ts.length ∧ (∀ t : Tmp, (∀ (j : Nat) (o : Oper), os[j]? = some o → o.dst ≠ some t) → te[t]? = ts[t]?) ∧
    ∀ (i : Nat) (o : Oper), os[i]? = some o → ∃ r tsi, R[i]? = some r ∧ HeadAt P ops hp o tsi (slotOf s R i) r ∧
      (∀ t : Tmp, (∀ (j : Nat) (o' : Oper), i ≤ j → os[j]? = some o' → o'.dst ≠ some t) → te[t]? = tsi[t]?) ∧
      (∀ d : Tmp, o.dst = some d → d < ts.length → (∀ (j : Nat) (o' : Oper), i < j → os[j]? = some o' → o'.dst ≠ some d) → te[d]? = some r.1) := by
  induction h with
  | nil => exact ⟨rfl, rfl, fun _ _ => rfl, fun i o h => by simp at h⟩
  | @quiet o os ts s x rs te hw hh hr ih =>
    obtain ⟨h1, h2, h3, h4⟩ := ih
    refine ⟨by simp [h1], by rw [h2, putL_length], fun t ht => ?_, fun i o' hi => ?_⟩
    · rw [h3 t (fun j o' hj => ht (j + 1) o' (by simpa using hj)), putL_ne (ht 0 o (by simp))]
    · cases i with
      | zero =>
        simp at hi; subst hi
        refine ⟨_, ts, rfl, .inl ⟨hw, hh⟩, fun t ht => ?_, fun d hd hlt hno => ?_⟩
        · rw [h3 t (fun j o' hj => ht (j + 1) o' (by omega) (by simpa using hj)), putL_ne (ht 0 o (by omega) (by simp))]
        · rw [h3 d (fun j o' hj => hno (j + 1) o' (by omega) (by simpa using hj)), hd]
          simp [putL, hlt]
      | succ i =>
        obtain ⟨r, tsi, k1, k2, k3, k4⟩ := h4 i o' (by simpa using hi)
        refine ⟨r, tsi, by simpa using k1, k2, fun t ht => k3 t (fun j o'' hle hj => ht (j + 1) o'' (by omega) (by simpa using hj)), fun d hd hlt hno => k4 d hd (by rw [putL_length]; exact hlt) (fun j o'' hle hj => hno (j + 1) o'' (by omega) (by simpa using hj))⟩
  | @new o os ts s x Bn rs te hw hh hr ih =>
    obtain ⟨h1, h2, h3, h4⟩ := ih
    refine ⟨by simp [h1], by rw [h2, putL_length], fun t ht => ?_, fun i o' hi => ?_⟩
    · rw [h3 t (fun j o' hj => ht (j + 1) o' (by simpa using hj)), putL_ne (ht 0 o (by simp))]
    · cases i with
      | zero =>
        simp at hi; subst hi
        refine ⟨_, ts, rfl, .inl ⟨hw, hh⟩, fun t ht => ?_, fun d hd hlt hno => ?_⟩
        · rw [h3 t (fun j o' hj => ht (j + 1) o' (by omega) (by simpa using hj)), putL_ne (ht 0 o (by omega) (by simp))]
        · rw [h3 d (fun j o' hj => hno (j + 1) o' (by omega) (by simpa using hj)), hd]
          simp [putL, hlt]
      | succ i =>
        obtain ⟨r, tsi, k1, k2, k3, k4⟩ := h4 i o' (by simpa using hi)
        refine ⟨r, tsi, by simpa using k1, k2, fun t ht => k3 t (fun j o'' hle hj => ht (j + 1) o'' (by omega) (by simpa using hj)), fun d hd hlt hno => k4 d hd (by rw [putL_length]; exact hlt) (fun j o'' hle hj => hno (j + 1) o'' (by omega) (by simpa using hj))⟩
  | @skip o os ts s rs te hw hr ih =>
    obtain ⟨h1, h2, h3, h4⟩ := ih
    refine ⟨by simp [h1], by rw [h2, putL_length], fun t ht => ?_, fun i o' hi => ?_⟩
    · rw [h3 t (fun j o' hj => ht (j + 1) o' (by simpa using hj)), putL_ne (ht 0 o (by simp))]
    · cases i with
      | zero =>
        simp at hi; subst hi
        refine ⟨_, ts, rfl, .inr ⟨hw, rfl⟩, fun t ht => ?_, fun d hd hlt hno => ?_⟩
        · rw [h3 t (fun j o' hj => ht (j + 1) o' (by omega) (by simpa using hj)), putL_ne (ht 0 o (by omega) (by simp))]
        · rw [h3 d (fun j o' hj => hno (j + 1) o' (by omega) (by simpa using hj)), hd]
          simp [putL, hlt]
      | succ i =>
        obtain ⟨r, tsi, k1, k2, k3, k4⟩ := h4 i o' (by simpa using hi)
        refine ⟨r, tsi, by simpa using k1, k2, fun t ht => k3 t (fun j o'' hle hj => ht (j + 1) o'' (by omega) (by simpa using hj)), fun d hd hlt hno => k4 d hd (by rw [putL_length]; exact hlt) (fun j o'' hle hj => hno (j + 1) o'' (by omega) (by simpa using hj))⟩

theorem evalL_congr {ts ts' : List AV} {x : Operand} (h : ∀ t, x = .tmp t → ts[t]? = ts'[t]?) : evalL ts x = evalL ts' x := by
  cases x with
  | tmp t => simp only [evalL, List.getD_eq_getElem?_getD, h t rfl]
  | _ => rfl

theorem awantedL_congr {ops : Array Oper} {ts ts' : List AV} {o : Oper} (h : ∀ t ∈ looks ops o, ts[t]? = ts'[t]?) : awantedL ops ts o = awantedL ops ts' o := by
  unfold awantedL awanted
  cases hg : o.guard with
  | none => rfl
  | some jw =>
    obtain ⟨j, want⟩ := jw
    simp only
    cases hd : (ops[j]?).bind (·.dst) with
    | none => rfl
    | some d =>
      simp only
      have := h d (by simp [looks, hg, hd])
      simp only [List.getD_eq_getElem?_getD, this]

theorem headAt_congr {P : Program} {ops : Array Oper} {hp : AHeap} {o : Oper} {ts ts' : List AV} {slot : Nat} {r : HRes} (h : ∀ t ∈ looks ops o, ts[t]? = ts'[t]?) (hh : HeadAt P ops hp o ts slot r) : HeadAt P ops hp o ts' slot r := by
  unfold HeadAt at *
  rw [← awantedL_congr h]
  refine hh.imp (fun ⟨h1, h2⟩ => ⟨h1, fun w S φ a next Q hl hb hev hn hk => h2 w S φ a next Q hl hb (fun y hy => ?_) hn hk⟩) id
  rw [evalL_congr (ts := ts) (ts' := ts') (fun t ht => h t (by
    simp only [looks, List.mem_append, List.mem_filterMap]
    exact .inl ⟨y, by simpa using hy, by rw [ht]⟩))]
  exact hev y hy


theorem slotsL_none (f : Nat → Bool) : ∀ (R : List HRes) (i0 i : Nat) (x : AV), R[i]? = some (x, none) → slotsL (fun j => if j = i0 + i then true else f j) i0 R = slotsL f i0 R
  | [], _, _, _, h => by simp at h
  | (y, b) :: r, i0, 0, x, h => by
    simp at h
    obtain ⟨rfl, rfl⟩ := h
    exact slotsL_congr _ _ r (i0 + 1) (fun j h1 _ => by simp; omega)
  | (y, none) :: r, i0, i + 1, x, h => by
    have := slotsL_none f r (i0 + 1) i x (by simpa using h)
    rw [show i0 + 1 + i = i0 + (i + 1) by omega] at this
    exact this
  | (y, some C) :: r, i0, i + 1, x, h => by
    have := slotsL_none f r (i0 + 1) i x (by simpa using h)
    rw [show i0 + 1 + i = i0 + (i + 1) by omega] at this
    have hne : (i0 = i0 + (i + 1)) = False := by simp
    simp only [slotsL, hne, if_false, this]

theorem slotOf_inj {R : List HRes} {s i i' : Nat} {x x' : AV} {B B' : Blk} (h : R[i]? = some (x, some B)) (h' : R[i']? = some (x', some B')) (hne : i' ≠ i) : slotOf s R i' ≠ slotOf s R i := fun e => by
  obtain ⟨_, h2, _, _⟩ := slotsL_set (fun _ => false) R 0 s i x B h
  obtain ⟨_, _, h3, _⟩ := slotsL_set (fun j => if j = 0 + i then true else false) R 0 s i' x' B' h'
  have := h3 (by simp; omega)
  rw [e, h2] at this
  simp at this

theorem wanted_of' {w : World} {S : Nat → Prop} {φ : Phi} {a : Act} {ts : List AV} {ops : Array Oper} {o : Oper} {b : Bool} (hsz : a.tmps.size = ts.length) (hr : ∀ t ∈ looks ops o, ∀ x, ts[t]? = some x → Rep w S φ (a.tmps.getD t Go.undef) x) (h : awantedL ops ts o = some b) : Region.wanted o (yielded ops a.tmps) = b := by
  unfold awantedL awanted at h
  unfold Region.wanted
  cases hg : o.guard with
  | none => simp [hg] at h; simp [h]
  | some jw =>
    obtain ⟨j, want⟩ := jw
    simp only [hg] at h ⊢
    unfold yielded
    cases hd : (ops[j]?).bind (·.dst) with
    | none => simp [hd] at h; subst h; simp
    | some d =>
      simp only [hd] at h
      have hlk : d ∈ looks ops o := by simp [looks, hg, hd]
      simp only [Option.bind_some]
      split at h
      · rename_i b' hb
        simp only [Option.some.injEq] at h
        rw [List.getD_eq_getElem?_getD] at hb
        cases hx : ts[d]? with
        | none => rw [hx] at hb; simp at hb
        | some x =>
          rw [hx] at hb
          simp at hb
          subst hb
          have hrep := hr d hlk _ hx
          have hlt : d < a.tmps.size := by rw [hsz]; exact (List.getElem?_eq_some_iff.1 hx).1
          have hv : a.tmps.getD d Go.undef = .bool b' := by generalize a.tmps.getD d Go.undef = z at hrep; cases hrep; rfl
          have hv' : a.tmps[d]? = some (.bool b') := by
            rw [Array.getElem?_eq_getElem hlt]
            simp [Array.getD, hlt] at hv
            rw [hv]
          simp [hv', ← h]
      · rename_i hb
        simp only [Option.some.injEq] at h
        subst h
        rw [List.getD_eq_getElem?_getD] at hb
        cases hx : ts[d]? with
        | none => rw [hx] at hb; simp at hb
        | some x =>
          rw [hx] at hb
          simp at hb
          subst hb
          have hrep := hr d hlk _ hx
          have hlt : d < a.tmps.size := by rw [hsz]; exact (List.getElem?_eq_some_iff.1 hx).1
          have hv : a.tmps.getD d Go.undef = Go.undef := by generalize a.tmps.getD d Go.undef = z at hrep; cases hrep; rfl
          have hv' : a.tmps[d]? = some Go.undef := by
            rw [Array.getElem?_eq_getElem hlt]
            simp [Array.getD, hlt] at hv
            rw [hv]
          simp [hv', Go.undef]
      · simp at h

theorem put_get {a : Act} {d : Option Tmp} {v : Value} {t : Tmp} (h : d ≠ some t) : (a.put d v).tmps.getD t Go.undef = a.tmps.getD t Go.undef := by
  cases d with
  | none => rfl
  | some d =>
    have : d ≠ t := fun e => h (by rw [e])
    simp [Act.put, Array.getD_eq_getD_getElem?, Array.getElem?_setIfInBounds, this]
theorem put_same {a : Act} {d : Tmp} {v : Value} (h : d < a.tmps.size) : (a.put (some d) v).tmps.getD d Go.undef = v := by
  simp [Act.put, h]
theorem put_size (a : Act) (d : Option Tmp) (v : Value) : (a.put d v).tmps.size = a.tmps.size := by cases d <;> simp [Act.put]

theorem hrel_holes {w : World} {S : Nat → Prop} {φ : Phi} {h l : AHeap} (hh : HRel w S φ h) (hl : ∀ x ∈ l, x = none) : HRel w S φ (h ++ l) := by
  refine ⟨fun k hk => hh.dom k (by simp at hk; omega), fun k hk => ?_, fun k B hk => ?_, hh.inj, hh.bound⟩
  · rcases Nat.lt_or_ge k h.length with hlt | hge
    · rw [List.getElem?_append_left hlt] at hk; exact hh.dead k hk
    · exact .inl (hh.dom k hge)
  · rcases Nat.lt_or_ge k h.length with hlt | hge
    · rw [List.getElem?_append_left hlt] at hk; exact hh.live k B hk
    · rw [List.getElem?_append_right hge] at hk
      have := hl _ (List.mem_of_getElem? hk)
      cases this
theorem slotsL_false : ∀ (f : Nat → Bool) (R : List HRes) (i : Nat), (∀ j, f j = false) → ∀ x ∈ slotsL f i R, x = none
  | f, [], _, _, x, h => by simp [slotsL] at h
  | f, (_, none) :: r, i, hf, x, h => slotsL_false f r (i + 1) hf x h
  | f, (_, some _) :: r, i, hf, x, h => by
    simp only [slotsL, hf i] at h
    rcases List.mem_cons.1 h with h | h
    · simpa using h
    · exact slotsL_false f r (i + 1) hf x h

theorem awp_region_draw {P : Program} {B : Base} {Q : AExit → ASt → Prop} {st : ASt} {id : Nat} {l : List Oper} (n : Nat) (hm : P.follows .mixedOrders = true) (hchk : drawOk l n = true) {R : List HRes} {te : List AV}
    (H : Heads P l.toArray st.heap (l.take n) st.tmps st.heap.length R te) (tail : AOps P B l.toArray Q (l.drop n) ⟨te, st.heap ++ newsL R, st.defs⟩) : AWp P B (.region id l.toArray true) Q st := by
  intro S φ a w hr
  refine wp_region_any hm ?_
  obtain ⟨c1, c2, c3, c4, c5, c6⟩ := drawOk_spec hchk
  obtain ⟨s1, s2, s3, s4⟩ := heads_spec H
  have hlen : (l.take n).length = n := by simp; omega
  have hget : ∀ (i : Nat) (o : Oper), i < n → l.toArray[i]? = some o → (l.take n)[i]? = some o := fun i o hi ho => by
    rw [List.getElem?_take, if_pos hi]; simpa using ho
  have hget' : ∀ (i : Nat) (o : Oper), (l.take n)[i]? = some o → i < n ∧ l.toArray[i]? = some o := fun i o h => by
    rw [List.getElem?_take] at h
    split at h
    · exact ⟨by assumption, by simpa using h⟩
    · cases h
  -- what the last list tells of a head's place
  have place : ∀ (i : Nat) (o : Oper) (d : Tmp), (l.take n)[i]? = some o → o.dst = some d → d < st.tmps.length → ∃ r, R[i]? = some r ∧ te[d]? = some r.1 := fun i o d hi hd hlt => by
    obtain ⟨r, tsi, k1, _, _, k4⟩ := s4 i o hi
    refine ⟨r, k1, k4 d hd hlt (fun j o' hij hj hd' => ?_)⟩
    obtain ⟨hi', ho'⟩ := hget' i o hi
    obtain ⟨hj', hjo⟩ := hget' j o' hj
    exact (c4 i j o d hi' hj' ho' (by rw [hjo]; exact hd')).2 (by omega) hd
  -- an operation of the head, told by the last list
  have headTe : ∀ (i : Nat) (o : Oper), (l.take n)[i]? = some o → ∃ r, R[i]? = some r ∧ HeadAt P l.toArray st.heap o te (slotOf st.heap.length R i) r := fun i o hi => by
    obtain ⟨r, tsi, k1, k2, k3, _⟩ := s4 i o hi
    refine ⟨r, k1, headAt_congr (fun t ht => (k3 t (fun j o' hij hj hd => ?_)).symm) k2⟩
    obtain ⟨hi', ho'⟩ := hget' i o hi
    obtain ⟨hj', hjo⟩ := hget' j o' hj
    have := (c4 i j o t hi' hj' ho' (by rw [hjo]; exact hd)).1 (by simpa using ht)
    omega
  -- all of the head is listed: the tail
  have fin : ∀ (listed : Array Bool) (a : Act) (w : World) (S : Nat → Prop) (φ : Phi), listed.size = l.length → (∀ j, n ≤ j → listed.getD j false = false) → (∀ j, j < n → listed.getD j false = true) →
      Ext B.w B.S B.φ w S φ → DRel w S φ a.defers st.defs → HRel w S φ (st.heap ++ slotsL (fun j => listed.getD j false) 0 R) → a.tmps.size = st.tmps.length →
      (∀ (d : Tmp) (x : AV), (∀ (j : Nat) (o : Oper), (l.take n)[j]? = some o → o.dst ≠ some d) → st.tmps[d]? = some x → Rep w S φ (a.tmps.getD d Go.undef) x) →
      (∀ (i : Nat) (o : Oper) (r : HRes) (d : Tmp), (l.take n)[i]? = some o → R[i]? = some r → listed.getD i false = true → o.dst = some d → d < st.tmps.length → Rep w S φ (a.tmps.getD d Go.undef) r.1) →
      wpAny P .any l.toArray (Lift B Q) (l.length - n) listed a w := fun listed a w S φ hsz htl hall i1 i2 i3 i5 i6 i7 => by
    have hla : listed = Array.replicate n true ++ Array.replicate (l.length - n) false := by
      apply Array.ext
      · simp; omega
      · intro j hj1 hj2
        rcases Nat.lt_or_ge j n with hj | hj
        · have := hall j hj
          rw [Array.getElem_append_left (by simpa using hj)]
          simp [Array.getD, hj1] at this
          simp [this]
        · have := htl j hj
          rw [Array.getElem_append_right (by simpa using hj)]
          simp [Array.getD, hj1] at this
          simp [this]
    have hrel : Rel B S φ ⟨te, st.heap ++ newsL R, st.defs⟩ a w := by
      refine ⟨?_, ⟨i5.trans s2.symm, fun d x hx => ?_⟩, i2, i1⟩
      · rw [← slotsL_all (fun j => listed.getD j false) R (fun j hj => hall j (by rw [s1, hlen] at hj; exact hj))]
        exact i3
      · by_cases hd : ∃ (i : Nat) (o : Oper), (l.take n)[i]? = some o ∧ o.dst = some d
        · obtain ⟨i, o, hi, hdst⟩ := hd
          have hlt : d < st.tmps.length := by rw [← s2]; exact (List.getElem?_eq_some_iff.1 hx).1
          obtain ⟨r, k1, k2⟩ := place i o d hi hdst hlt
          rw [k2] at hx; cases hx
          exact i7 i o r d hi k1 (hall i (hget' i o hi).1) hdst hlt
        · have hno : ∀ (j : Nat) (o : Oper), (l.take n)[j]? = some o → o.dst ≠ some d := fun j o hj he => hd ⟨j, o, hj, he⟩
          rw [s3 d hno] at hx
          exact i6 d x hno hx
    have hdl : (l.drop n).length = l.length - n := by simp
    have := wpAny_of_seq (P := P) (md := .any) (ops := l.toArray) (Q' := Lift B Q) (l.drop n) n listed a w (fun j => by simp [List.getElem?_drop]) (by rw [hdl, hla]; exact c6) (tail S φ a w hrel)
    rwa [hdl] at this
  have main : ∀ (m : Nat) (listed : Array Bool) (a : Act) (w : World), listed.size = l.length → Down l.toArray listed → (∀ j, n ≤ j → listed.getD j false = false) → ((List.range n).filter (fun j => !listed.getD j false)).length ≤ m →
      (∃ S φ, Ext B.w B.S B.φ w S φ ∧ DRel w S φ a.defers st.defs ∧ HRel w S φ (st.heap ++ slotsL (fun j => listed.getD j false) 0 R) ∧ (∀ i x Bn, R[i]? = some (x, some Bn) → listed.getD i false = false → φ (slotOf st.heap.length R i) = none) ∧
        a.tmps.size = st.tmps.length ∧ (∀ (d : Tmp) (x : AV), (∀ (j : Nat) (o : Oper), (l.take n)[j]? = some o → o.dst ≠ some d) → st.tmps[d]? = some x → Rep w S φ (a.tmps.getD d Go.undef) x) ∧
        (∀ (i : Nat) (o : Oper) (r : HRes) (d : Tmp), (l.take n)[i]? = some o → R[i]? = some r → listed.getD i false = true → o.dst = some d → d < st.tmps.length → Rep w S φ (a.tmps.getD d Go.undef) r.1)) →
      wpAny P .any l.toArray (Lift B Q) (m + (l.length - n)) listed a w := by
    intro m
    induction m with
    | zero =>
      intro listed a w hsz hdown htl hcnt ⟨S, φ, i1, i2, i3, i4, i5, i6, i7⟩
      have hall : ∀ j, j < n → listed.getD j false = true := fun j hj => by
        cases hb : listed.getD j false with
        | true => rfl
        | false =>
          have : j ∈ (List.range n).filter (fun j => !listed.getD j false) := List.mem_filter.2 ⟨List.mem_range.2 hj, by simp only [hb]; rfl⟩
          have := List.length_pos_of_mem this
          omega
      rw [Nat.zero_add]
      exact fin listed a w S φ hsz htl hall i1 i2 i3 i5 i6 i7
    | succ m ih =>
      intro listed a w hsz hdown htl hcnt ⟨S, φ, i1, i2, i3, i4, i5, i6, i7⟩
      by_cases hall : ∀ j, j < n → listed.getD j false = true
      · exact wpAny_add (fin listed a w S φ hsz htl hall i1 i2 i3 i5 i6 i7) (m + 1)
      rw [Nat.add_right_comm]
      have toFalse : ∀ j, j < l.length → listed.getD j true = listed.getD j false := fun j hj => by simp [Array.getD, hsz, hj]
      refine ⟨fun hready => absurd ?_ hall, fun i hi => ?_⟩
      · intro j
        induction j using Nat.strongRecOn with
        | _ j ihj =>
          intro hj
          have hjl : j < l.length := by omega
          cases hb : listed.getD j false with
          | true => rfl
          | false =>
            have : j ∈ Region.ready .any l.toArray listed := mem_ready.2 ⟨by rw [toFalse j hjl]; exact hb, l[j], by simp [hjl], fun e he hbe => ihj e.on (c2 j _ (by simp [hjl]) e he hbe) (by have := c2 j l[j] (by simp [hjl]) e he hbe; omega)⟩
            rw [hready] at this; cases this
      · obtain ⟨hun, o, ho, hpre⟩ := mem_ready.1 hi
        have hil : i < l.length := by simpa using (Array.getElem?_eq_some_iff.1 ho).1
        have hbefore := listed_of_before c3 hdown i o ho hpre
        have hin : i < n := by
          rcases Nat.lt_or_ge i n with h | h
          · exact h
          · exact absurd (fun j hj => hbefore j (by omega) (c5 i h hil j (by omega))) hall
        have hio := hget i o hin ho
        obtain ⟨r, hr1, hr2⟩ := headTe i o hio
        have hunf : listed.getD i false = false := by rw [← toFalse i hil]; exact hun
        -- the slots that it looks at
        have slot : ∀ t ∈ looks l.toArray o, ∀ x, te[t]? = some x → Rep w S φ (a.tmps.getD t Go.undef) x := fun t ht x hx => by
          by_cases hd : ∃ (j : Nat) (o' : Oper), (l.take n)[j]? = some o' ∧ o'.dst = some t
          · obtain ⟨j, o', hj, hdst⟩ := hd
            obtain ⟨hjn, hjo⟩ := hget' j o' hj
            have hlt : t < st.tmps.length := by rw [← s2]; exact (List.getElem?_eq_some_iff.1 hx).1
            obtain ⟨r', k1, k2⟩ := place j o' t hj hdst hlt
            rw [k2] at hx; cases hx
            obtain ⟨g1, g2⟩ := (c4 i j o t hin hjn ho (by rw [hjo]; exact hdst)).1 (by simpa using ht)
            exact i7 j o' r' t hj k1 (hbefore j g1 g2) hdst hlt
          · have hno : ∀ (j : Nat) (o : Oper), (l.take n)[j]? = some o → o.dst ≠ some t := fun j o hj he => hd ⟨j, o, hj, he⟩
            rw [s3 t hno] at hx
            exact i6 t x hno hx
        have opnd : ∀ y ∈ o.op.operands, Rep w S φ (a.eval y) (evalL te y) := fun y hy => by
          cases y with
          | tmp t =>
            simp only [evalL, Act.eval]
            cases hx : te[t]? with
            | none => simp [List.getD_eq_getElem?_getD, hx]; exact .any
            | some x =>
              have := slot t (by
                simp only [looks, List.mem_append, List.mem_filterMap]
                exact .inl ⟨.tmp t, by simpa using hy, rfl⟩) x hx
              simpa [List.getD_eq_getElem?_getD, hx] using this
          | const v => exact rep_ofConst ..
          | global g => exact .any
          | func f => exact .fn rfl rfl (fun j x h => by simp at h) (fun j x h => by simp at h)
        have hsize' : (listed.setIfInBounds i true).size = l.length := by simpa using hsz
        have hset : ∀ j, (listed.setIfInBounds i true).getD j false = if j = i then true else listed.getD j false := fun j => by
          by_cases hji : j = i
          · subst hji; simp [Array.getD, hsz, hil]
          · rw [if_neg hji]
            have : i ≠ j := fun e => hji e.symm
            simp [Array.getD_eq_getD_getElem?, Array.getElem?_setIfInBounds, this]
        have hfun : (fun j => (listed.setIfInBounds i true).getD j false) = fun j => if j = 0 + i then true else listed.getD j false := funext fun j => by rw [hset, Nat.zero_add]
        have hdown' : Down l.toArray (listed.setIfInBounds i true) := fun j oj hoj hl e he hb => by
          rw [hset] at hl ⊢
          split
          · rfl
          · by_cases hji : j = i
            · subst hji; rw [ho] at hoj; cases hoj; exact hpre e he hb
            · rw [if_neg hji] at hl; exact hdown j oj hoj hl e he hb
        have htl' : ∀ j, n ≤ j → (listed.setIfInBounds i true).getD j false = false := fun j hj => by rw [hset, if_neg (by omega)]; exact htl j hj
        have hcnt' : ((List.range n).filter (fun j => !(listed.setIfInBounds i true).getD j false)).length ≤ m := by
          have := filter_less (fun j => !listed.getD j false) (fun j => !(listed.setIfInBounds i true).getD j false) (List.range n) i (fun y _ hy => by
            simp only [hset] at hy
            split at hy
            · simp at hy
            · exact hy) (List.mem_range.2 hin) (by simp only [hunf]; rfl) (by simp only [hset, if_pos]; rfl)
          omega
        -- what is left behind it
        have done : ∀ (v : Value) (w' : World) (S' : Nat → Prop) (φ' : Phi), HRel w' S' φ' (st.heap ++ slotsL (fun j => (listed.setIfInBounds i true).getD j false) 0 R) → Ext w S φ w' S' φ' →
            (∀ i' x Bn, R[i']? = some (x, some Bn) → (listed.setIfInBounds i true).getD i' false = false → φ' (slotOf st.heap.length R i') = none) → Rep w' S' φ' v r.1 →
            wpAny P .any l.toArray (Lift B Q) (m + (l.length - n)) (listed.setIfInBounds i true) (a.put o.dst v) w' := fun v w' S' φ' g1 g2 g3 g4 => by
          refine ih _ _ _ hsize' hdown' htl' hcnt' ⟨S', φ', i1.trans g2, ?_, g1, g3, (put_size ..).trans i5, fun d x hno hx => ?_, fun j o' r' d hj hrj hl hd hlt => ?_⟩
          · have : (a.put o.dst v).defers = a.defers := by cases o.dst <;> rfl
            rw [this]; exact i2.step g2.step
          · rw [put_get (hno i o hio)]; exact (i6 d x hno hx).step g2.step
          · by_cases hji : j = i
            · subst hji
              rw [hio] at hj; cases hj
              rw [hr1] at hrj; cases hrj
              rw [hd, put_same (by rw [i5]; exact hlt)]
              exact g4
            · rw [hset, if_neg hji] at hl
              obtain ⟨hjn, hjo⟩ := hget' j o' hj
              have := (c4 i j o d hin hjn ho (by rw [hjo]; exact hd)).2 hji
              rw [put_get this]
              exact (i7 j o' r' d hj hrj hl hd hlt).step g2.step
        unfold wpOp
        simp only [ho]
        rcases hr2 with ⟨hw, hh⟩ | ⟨hw, hr0⟩
        · rw [if_pos (wanted_of' (i5.trans s2.symm) slot hw)]
          refine .inl (hh w S φ a _ _ (fun k Bk hk => ?_) i3.bound opnd (fun k Bn hk => ?_) fun v w' S' φ' h1 h2 h3 h4 h5 h6 => ?_)
          · exact i3.live k Bk (by rw [List.getElem?_append_left (List.getElem?_eq_some_iff.1 hk).1]; exact hk)
          · obtain ⟨x, nb⟩ := r
            cases nb with
            | none => simp at hk
            | some Bn' =>
              simp at hk
              rw [← hk.1]
              exact i4 i x Bn' hr1 hunf
          · obtain ⟨x, nb⟩ := r
            cases nb with
            | none =>
              have e : φ' = φ := h5
              subst e
              obtain ⟨g1, g2⟩ := hrel_quiet i3 h1 h2 h3 h4
              refine done v w' S' φ' ?_ g2 (fun i' x' Bn hi' hl => ?_) h6
              · rw [hfun, slotsL_none _ R 0 i x hr1]; exact g1
              · rw [hset] at hl
                split at hl
                · cases hl
                · exact i4 i' x' Bn hi' hl
            | some Bn =>
              have h5' : NewRel (some (slotOf st.heap.length R i, Bn)) w w' S' φ φ' := h5
              obtain ⟨q1, q2, q3, q4⟩ := slotsL_set (fun j => listed.getD j false) R 0 st.heap.length i x Bn hr1
              have hge := slotOf_ge R st.heap.length i
              obtain ⟨g1, g2⟩ := hrel_slot (h' := st.heap ++ slotsL (fun j => (listed.setIfInBounds i true).getD j false) 0 R) i3 h1 h2 h3 h4 h5' (i4 i x Bn hr1 hunf)
                (by rw [List.length_append, slotsL_length _ (fun j => listed.getD j false) R 0 0]; omega)
                (by rw [List.length_append, List.length_append, slotsL_length (fun j => (listed.setIfInBounds i true).getD j false) (fun j => listed.getD j false) R 0 0]; omega)
                (by rw [List.getElem?_append_right hge, hfun]; exact q2)
                (fun j hj hjl => by
                  left
                  rcases Nat.lt_or_ge j st.heap.length with hlt | hge'
                  · rw [List.getElem?_append_left hlt, List.getElem?_append_left hlt]
                  · rw [List.getElem?_append_right hge', List.getElem?_append_right hge', hfun]
                    exact q4 _ (by omega))
              refine done v w' S' φ' g1 g2 (fun i' x' Bn' hi' hl => ?_) h6
              obtain ⟨_, g, rfl, _⟩ := h5'
              rw [hset] at hl
              split at hl
              · cases hl
              · rename_i hne
                simp only [updPhi, slotOf_inj hr1 hi' hne, if_false]
                exact i4 i' x' Bn' hi' hl
        · subst hr0
          rw [if_neg (by simp [wanted_of' (i5.trans s2.symm) slot hw])]
          refine done Go.undef w S φ ?_ (.refl _ _ _) (fun i' x' Bn hi' hl => ?_) .undef
          · rw [hfun, slotsL_none _ R 0 i .undef hr1]; exact i3
          · rw [hset] at hl
            split at hl
            · cases hl
            · exact i4 i' x' Bn hi' hl
  have hrd := hrel_drew hr.heap
  have := main n (Array.replicate l.length false) a w.drew (by simp) (fun i o _ h => by
      rw [getD_replicate_false] at h; cases h) (fun j _ => getD_replicate_false _ _) (by
      refine Nat.le_trans (List.length_filter_le _ _) (by simp)) ⟨S, φ, hr.ext.trans hrd.2, hr.defs.step hrd.2.step, ?_, fun i x Bn hi _ => ?_, hr.tmps.1, fun d x _ hx => (hr.tmps.2 d x hx).step hrd.2.step, fun i o r d _ _ hl => by rw [getD_replicate_false] at hl; cases hl⟩
  · rw [show n + (l.length - n) = l.toArray.size by simp; omega] at this
    simpa using this
  · exact hrel_holes hrd.1 (slotsL_false _ R 0 (fun j => getD_replicate_false _ _))
  · exact hr.heap.dom _ (slotOf_ge _ _ _)

end Go.Proofs.Ytpckfpahmnhfcaa.G
