/- What the layer of pages computes, over plain data. -/
import Derived.Test.YtpckfpahmnhfcaaG10
namespace Go.Proofs.Ytpckfpahmnhfcaa.F
open Go Go.RowKit Go.Proofs.Ytpckfpahmnhfcaa.G
structure MapD where
  va : Int
  n : Int
  cont : Int
  seg : Int
  off : Int
  write : Bool
deriving DecidableEq
def encMap (m : MapD) : List AV := [.int .i64 m.va, .int .i64 m.n, .int .u64 m.cont, .int .u64 m.seg, .int .i64 m.off, .bool m.write]
def w64 (n : Int) : Int := IntKind.i64.wrap n
def endL (m : MapD) : Int := IntKind.i64.wrap (m.va + m.n)
def withinL (a b : Int) : Bool := decide (a ≥ 0) && (decide (a < 1048576) && (decide (b ≥ 1) && decide (b ≤ IntKind.i64.wrap (1048576 - a))))
def goodL (m : MapD) : Bool := withinL m.va m.n && withinL m.off m.n
def hasL (m : MapD) (p : Int) : Bool := decide (p ≥ m.va) && decide (p < endL m)
def meetsL (m k : MapD) : Bool := hasL m k.va || hasL k m.va
def oneL (m : MapD) : Bool := decide (m.va ≥ 0) && (decide (m.va < 1048576) && (decide (m.off ≥ 0) && (decide (m.off < 1048576) && (decide (m.n ≥ 1) && (decide (m.n ≤ 1048576) && (decide (m.n ≤ IntKind.i64.wrap (1048576 - m.va)) && decide (m.n ≤ IntKind.i64.wrap (1048576 - m.off))))))))
def splitOk (n : Int) : Bool := !decide (IntKind.u64.wrap (n.tdiv 16) ≥ 1048576)
def splitP (n : Int) : Int := if splitOk n then IntKind.i64.wrap (IntKind.u64.wrap (n.tdiv 16)) else 0
def splitW (n : Int) : Int := if splitOk n then IntKind.i64.wrap (n.tmod 16) else 0

/-! ### numbers and lists -/
theorem get_map {α : Type} {f : α → List AV} {l : List α} {i : Nat} {x : α} (h : l[i]? = some x) : (l.map f)[((i : Nat) : Int).toNat]? = some (f x) := by simp [h]
theorem succ64 {i n : Nat} (h : i < n) (hn : n < 4611686018427387904) : IntKind.i64.wrap ((i : Int) + 1) = ((i + 1 : Nat) : Int) := by
  rw [IntKind.wrap_i64]; omega
theorem succ64' {i n : Nat} (h : i < n) (hn : n < 4611686018427387904) : AV.int .i64 (IntKind.i64.wrap ((i : Int) + 1)) = .int .i64 ((i + 1 : Nat) : Int) := by rw [succ64 h hn]
theorem get_lt {α : Type} {l : List α} {i : Nat} (h : i < l.length) : ∃ x, l[i]? = some x := ⟨_, List.getElem?_eq_getElem h⟩
theorem int_lt {a b : Nat} (h : decide ((a : Int) < (b : Int)) = true) : a < b := by simpa using h
theorem int_ge {a b : Nat} (h : decide ((a : Int) < (b : Int)) = false) : b ≤ a := by simpa using h
theorem encEq (x y : MapD) : (x.va == y.va && (x.n == y.n && (x.cont == y.cont && (x.seg == y.seg && (x.off == y.off && (x.write == y.write && true)))))) = decide (x = y) := by
  rw [Bool.eq_iff_iff]; cases x; cases y; simp
theorem take_step {α : Type} {l k : List α} {i : Nat} {x : α} (h : l.take i = k.take i) (hx : l[i]? = some x) (hy : k[i]? = some x) : l.take (i + 1) = k.take (i + 1) := by
  rw [List.take_add_one, List.take_add_one, h, hx, hy]
theorem ne_at {α : Type} {l k : List α} {i : Nat} {x y : α} (h : x ≠ y) (hx : l[i]? = some x) (hy : k[i]? = some y) : l ≠ k := fun e => by subst e; rw [hx] at hy; cases hy; exact h rfl
theorem eq_take {α : Type} {l k : List α} {i : Nat} (h : l.take i = k.take i) (hl : l.length ≤ i) (hk : k.length ≤ i) : l = k := by rwa [List.take_of_length_le hl, List.take_of_length_le hk] at h
theorem pred64 {j n : Nat} (h : j < n) (hn : n < 4611686018427387904) : IntKind.i64.wrap (((j + 1 : Nat) : Int) - 1) = (j : Int) := by
  rw [IntKind.wrap_i64]; omega
theorem pred64' {j n : Nat} (h : j < n) (hn : n < 4611686018427387904) : 0 ≤ IntKind.i64.wrap (((j + 1 : Nat) : Int) - 1) := by rw [pred64 h hn]; exact Int.natCast_nonneg _
theorem get_map_pred {α : Type} {f : α → List AV} {l : List α} {j n : Nat} {x : α} (h : j < n) (hn : n < 4611686018427387904) (hx : l[j]? = some x) : (l.map f)[(IntKind.i64.wrap (((j + 1 : Nat) : Int) - 1)).toNat]? = some (f x) := by
  rw [pred64 h hn]; simp [hx]
/-! ### searches -/
def idxL {α : Type} (p : α → Bool) (l : List α) : Int := match l.findIdx? p with | some i => (i : Int) | none => -1
theorem idx_here {α : Type} {p : α → Bool} {l : List α} {i : Nat} {x : α} (h : ∀ j y, j < i → l[j]? = some y → p y = false) (hx : l[i]? = some x) (hp : p x = true) : (i : Int) = idxL p l := by
  have : l.findIdx? p = some i := by
    rw [List.findIdx?_eq_some_iff_getElem]
    obtain ⟨hl, rfl⟩ := List.getElem?_eq_some_iff.1 hx
    exact ⟨hl, hp, fun j hj => by
      have := h j _ hj (List.getElem?_eq_getElem (by omega))
      simp [this]⟩
  simp [idxL, this]
theorem idx_none {α : Type} {p : α → Bool} {l : List α} {i : Nat} (h : ∀ j y, j < i → l[j]? = some y → p y = false) (hl : l.length ≤ i) : idxL p l = -1 := by
  have : l.findIdx? p = none := by
    rw [List.findIdx?_eq_none_iff]
    intro x hx
    obtain ⟨j, hj⟩ := List.mem_iff_getElem?.1 hx
    exact h j x (by have := (List.getElem?_eq_some_iff.1 hj).1; omega) hj
  simp [idxL, this]
theorem none_step {α : Type} {p : α → Bool} {l : List α} {i : Nat} {x : α} (h : ∀ j y, j < i → l[j]? = some y → p y = false) (hx : l[i]? = some x) (hp : p x = false) : ∀ j y, j < i + 1 → l[j]? = some y → p y = false := fun j y hj hy => by
  rcases Nat.lt_or_ge j i with h1 | h1
  · exact h j y h1 hy
  · have : j = i := by omega
    subst this; rw [hx] at hy; cases hy; exact hp
theorem none0 {α : Type} {p : α → Bool} {l : List α} : ∀ j y, j < 0 → l[j]? = some y → p y = false := fun j y h => by omega
theorem idx_any {α : Type} (p : α → Bool) (l : List α) : decide (idxL p l ≥ 0) = l.any p := by
  unfold idxL
  cases h : l.findIdx? p with
  | none =>
    rw [List.findIdx?_eq_none_iff] at h
    simp only [ge_iff_le, show ¬ ((0 : Int) ≤ -1) by omega, decide_false]
    symm; rw [List.any_eq_false]; intro x hx; simp [h x hx]
  | some i =>
    rw [List.findIdx?_eq_some_iff_getElem] at h
    obtain ⟨hl, hp, _⟩ := h
    have : l.any p = true := List.any_eq_true.2 ⟨_, List.getElem_mem hl, hp⟩
    simp [this]
/-- The place of the first whose key is not below a number, by halves. -/
def atL {α : Type} (key : α → Int) (l : List α) (n : Int) : Nat := l.countP fun x => decide (key x < n)
theorem at_done {α : Type} {key : α → Int} {l : List α} {n : Int} {i : Nat} (hi : i ≤ l.length) (h1 : ∀ j y, j < i → l[j]? = some y → key y < n) (h2 : ∀ j y, i ≤ j → l[j]? = some y → ¬ key y < n) : i = atL key l n := by
  have e : l = l.take i ++ l.drop i := (List.take_append_drop i l).symm
  unfold atL
  rw [e, List.countP_append]
  have a : (l.take i).countP (fun x => decide (key x < n)) = (l.take i).length := List.countP_eq_length.2 fun x hx => by
    obtain ⟨j, hj⟩ := List.mem_iff_getElem?.1 hx
    rw [List.getElem?_take] at hj
    split at hj
    · simpa using h1 j x (by assumption) hj
    · cases hj
  have b : (l.drop i).countP (fun x => decide (key x < n)) = 0 := List.countP_eq_zero.2 fun x hx => by
    obtain ⟨j, hj⟩ := List.mem_iff_getElem?.1 hx
    rw [List.getElem?_drop] at hj
    simpa using h2 _ x (by omega) hj
  rw [a, b, List.length_take]; omega
theorem pair_get {α : Type} {R : α → α → Prop} {l : List α} (h : l.Pairwise R) {i j : Nat} {x y : α} (hij : i < j) (hx : l[i]? = some x) (hy : l[j]? = some y) : R x y := by
  obtain ⟨hi, rfl⟩ := List.getElem?_eq_some_iff.1 hx
  obtain ⟨hj, rfl⟩ := List.getElem?_eq_some_iff.1 hy
  exact List.pairwise_iff_getElem.1 h i j hi hj hij
theorem mid64 {a b n : Nat} (hab : a < b) (hb : b ≤ n) (hn : n < 4611686018427387904) : IntKind.i64.wrap ((IntKind.i64.wrap ((a : Int) + (b : Int))).tdiv 2) = (((a + b) / 2 : Nat) : Int) := by
  have : IntKind.i64.wrap ((a : Int) + (b : Int)) = ((a + b : Nat) : Int) := by rw [IntKind.wrap_i64]; omega
  rw [this, Int.tdiv_eq_ediv_of_nonneg (by omega), IntKind.wrap_i64]; omega
theorem at_up {α : Type} {key : α → Int} {l : List α} {n : Int} {k : Nat} {x : α} (hm : l.Pairwise fun x y => key x ≤ key y) (hx : l[k]? = some x) (h : key x < n) : ∀ j y, j < k + 1 → l[j]? = some y → key y < n := fun j y hj hy => by
  rcases Nat.lt_or_ge j k with h1 | h1
  · have := pair_get hm h1 hy hx; omega
  · have : j = k := by omega
    subst this; rw [hx] at hy; cases hy; exact h
theorem at_down {α : Type} {key : α → Int} {l : List α} {n : Int} {k : Nat} {x : α} (hm : l.Pairwise fun x y => key x ≤ key y) (hx : l[k]? = some x) (h : ¬ key x < n) : ∀ j y, k ≤ j → l[j]? = some y → ¬ key y < n := fun j y hj hy => by
  rcases Nat.lt_or_ge k j with h1 | h1
  · have := pair_get hm h1 hx hy; omega
  · have : j = k := by omega
    subst this; rw [hx] at hy; cases hy; exact h
theorem mid1 {a b n : Nat} (hab : a < b) (hb : b ≤ n) (hn : n < 4611686018427387904) : AV.int .i64 (IntKind.i64.wrap (IntKind.i64.wrap ((IntKind.i64.wrap ((a : Int) + (b : Int))).tdiv 2) + 1)) = .int .i64 (((a + b) / 2 + 1 : Nat) : Int) := by
  rw [mid64 hab hb hn, succ64 (n := n) (by omega) hn]
theorem mid0 {a b n : Nat} (hab : a < b) (hb : b ≤ n) (hn : n < 4611686018427387904) : AV.int .i64 (IntKind.i64.wrap ((IntKind.i64.wrap ((a : Int) + (b : Int))).tdiv 2)) = .int .i64 (((a + b) / 2 : Nat) : Int) := by
  rw [mid64 hab hb hn]

/-! ### maps that can be -/
/-- May the map at a place be there: g tells of one alone. -/
def okAt (g : MapD → Bool) (l : List MapD) (i : Nat) : Bool := match l[i]? with
  | none => true
  | some x => g x && match i with
    | 0 => true
    | j + 1 => match l[j]? with
      | some y => !decide (endL y > x.va)
      | none => true
def fitL (g : MapD → Bool) (l : List MapD) : Bool := decide ((l.length : Int) ≤ 16) && (List.range l.length).all (okAt g l)
theorem ok_no0 {g : MapD → Bool} {l : List MapD} {i : Nat} {x : MapD} (hx : l[i]? = some x) (h : g x = false) : okAt g l i = false := by simp [okAt, hx, h]
theorem ok_yes0 {g : MapD → Bool} {l : List MapD} {x : MapD} (hx : l[0]? = some x) (h : g x = true) : okAt g l 0 = true := by simp [okAt, hx, h]
theorem ok_yes {g : MapD → Bool} {l : List MapD} {i : Nat} {x y : MapD} (hx : l[i + 1]? = some x) (hy : l[i]? = some y) (h : g x = true) (h' : decide (endL y > x.va) = false) : okAt g l (i + 1) = true := by
  simp [okAt, hx, hy, h] at h' ⊢; omega
theorem ok_no {g : MapD → Bool} {l : List MapD} {i : Nat} {x y : MapD} (hx : l[i + 1]? = some x) (hy : l[i]? = some y) (h' : decide (endL y > x.va) = true) : okAt g l (i + 1) = false := by
  simp [okAt, hx, hy] at h' ⊢; omega
theorem fit_no {g : MapD → Bool} {l : List MapD} {i : Nat} (hi : i < l.length) (h : okAt g l i = false) : false = fitL g l := by
  have : (List.range l.length).all (okAt g l) = false := List.all_eq_false.2 ⟨i, List.mem_range.2 hi, by simp [h]⟩
  simp [fitL, this]
theorem fit_big {g : MapD → Bool} {l : List MapD} (h : ¬ (l.length : Int) ≤ 16) : false = fitL g l := by simp [fitL, h]
theorem fit_end {g : MapD → Bool} {l : List MapD} {i : Nat} (hi : l.length ≤ i) (h : ∀ j, j < i → okAt g l j = true) : decide ((l.length : Int) ≤ 16) = fitL g l := by
  have : (List.range l.length).all (okAt g l) = true := List.all_eq_true.2 fun j hj => h j (by have := List.mem_range.1 hj; omega)
  simp [fitL, this]
theorem ok_step {g : MapD → Bool} {l : List MapD} {i : Nat} (h : ∀ j, j < i → okAt g l j = true) (h' : okAt g l i = true) : ∀ j, j < i + 1 → okAt g l j = true := fun j hj => by
  rcases Nat.lt_or_ge j i with h1 | h1
  · exact h j h1
  · have : j = i := by omega
    subst this; exact h'
theorem ok_none {g : MapD → Bool} {l : List MapD} : ∀ j, j < 0 → okAt g l j = true := fun j h => by omega
theorem pos_pred {i : Nat} (h : decide ((i : Int) > 0) = true) : ∃ j, i = j + 1 := ⟨i - 1, by simp at h; omega⟩
theorem zero_of {i : Nat} (h : decide ((i : Int) > 0) = false) : i = 0 := by simp at h; omega
/-! ### finding, laying in, taking out -/
def zeroMap : MapD := ⟨0, 0, 0, 0, 0, false⟩
def encFind (r : MapD × Int × Bool) : AV := .tuple [.agg (encMap r.1), .int .i64 r.2.1, .bool r.2.2]
def encList (r : List MapD × Int) : AV := .tuple [.list (r.1.map encMap), .int .i64 r.2]
def foundAt (x : MapD) (page : Int) : MapD × Int × Bool := (x, w64 (w64 (x.off + page) - x.va), true)
def noMap : MapD × Int × Bool := (zeroMap, 0, false)
def findP (l : List MapD) (page : Int) : MapD × Int × Bool :=
  if page ≥ 1048576 then noMap
  else if page < 0 then noMap
  else match l[atL endL l (w64 (page + 1))]? with
    | none => noMap
    | some x => if hasL x page then foundAt x page else noMap
def findR (l : List MapD) (page : Int) : MapD × Int × Bool := match l.find? fun x => hasL x page with
  | none => noMap
  | some x => foundAt x page
def dropP (l : List MapD) (va : Int) : List MapD × Int := match l[atL (·.va) l va]? with
  | none => (l, 1)
  | some x => if x.va = va then (l.take (atL (·.va) l va) ++ l.drop (atL (·.va) l va + 1), 0) else (l, 1)
def dropTo (l : List MapD) (va : Int) (i : Nat) : List MapD := (l.take i).filter fun x => !decide (x.va = va)
def dropR (l : List MapD) (va : Int) : List MapD × Int := if (dropTo l va l.length).length = l.length then (l, 1) else (dropTo l va l.length, 0)
def putP (l : List MapD) (m : MapD) : List MapD × Int :=
  if goodL m = false then (l, 4)
  else if l.any (meetsL m) then (l, 12)
  else if (l.length : Int) ≥ 16 then (l, 6)
  else (l.take (atL (·.va) l m.va) ++ [m] ++ l.drop (atL (·.va) l m.va), 0)
def cutsR (m x : MapD) : Bool := decide (x.va < w64 (m.va + m.n)) && decide (m.va < w64 (x.va + x.n))
def putAt (l : List MapD) (m : MapD) : Nat → List MapD × Bool
  | 0 => ([], false)
  | i + 1 => match l[i]? with
    | none => putAt l m i
    | some x => ((if !(putAt l m i).2 && decide (x.va > m.va) then (putAt l m i).1 ++ [m] else (putAt l m i).1) ++ [x], (putAt l m i).2 || decide (x.va > m.va))
def putOut (l : List MapD) (m : MapD) : List MapD := if (putAt l m l.length).2 then (putAt l m l.length).1 else (putAt l m l.length).1 ++ [m]
def putR (l : List MapD) (m : MapD) : List MapD × Int :=
  if oneL m = false then (l, 4)
  else if l.any (cutsR m) then (l, 12)
  else if ((putOut l m).length : Int) > 16 then (l, 6)
  else (putOut l m, 0)
theorem at_le {α : Type} (key : α → Int) (l : List α) (n : Int) : atL key l n ≤ l.length := List.countP_le_length
theorem enc_len {l : List MapD} : ∀ el ∈ l.map encMap, el.length = 6 := fun el h => by obtain ⟨m, _, rfl⟩ := List.mem_map.1 h; rfl
theorem enc_scal {l : List MapD} : ∀ el ∈ l.map encMap, el.all AV.scal = true := fun el h => by obtain ⟨m, _, rfl⟩ := List.mem_map.1 h; rfl
theorem enc_under : ∀ {l : List MapD}, AV.underL 0 (l.map encMap).flatten = true
  | [] => rfl
  | m :: l => by
    have := enc_under (l := l)
    simp only [List.map_cons, List.flatten_cons, encMap, List.cons_append, List.nil_append, AV.underL, AV.under, Bool.true_and]
    exact this
theorem drop_step {l : List MapD} {va : Int} {i : Nat} {x : MapD} (hx : l[i]? = some x) : dropTo l va (i + 1) = dropTo l va i ++ (if x.va = va then [] else [x]) := by
  unfold dropTo
  rw [List.take_add_one, hx, List.filter_append]
  by_cases h : x.va = va <;> simp [h]
theorem put_step {l : List MapD} {m : MapD} {i : Nat} {x : MapD} (hx : l[i]? = some x) : putAt l m (i + 1) = ((if !(putAt l m i).2 && decide (x.va > m.va) then (putAt l m i).1 ++ [m] else (putAt l m i).1) ++ [x], (putAt l m i).2 || decide (x.va > m.va)) := by
  conv => lhs; unfold putAt
  rw [hx]
theorem any_none {l : List MapD} {p : MapD → Bool} {i : Nat} (h : ∀ j y, j < i → l[j]? = some y → p y = false) (hi : l.length ≤ i) : l.any p = false := by
  rw [List.any_eq_false]
  intro x hx
  obtain ⟨j, hj⟩ := List.mem_iff_getElem?.1 hx
  have := h j x (by have := (List.getElem?_eq_some_iff.1 hj).1; omega) hj
  simp [this]
theorem any_here {l : List MapD} {p : MapD → Bool} {i : Nat} {x : MapD} (hx : l[i]? = some x) (h : p x = true) : l.any p = true := List.any_eq_true.2 ⟨x, List.mem_of_getElem? hx, h⟩
theorem find_none {l : List MapD} {p : MapD → Bool} {i : Nat} (h : ∀ j y, j < i → l[j]? = some y → p y = false) (hi : l.length ≤ i) : l.find? p = none := by
  rw [List.find?_eq_none]
  intro x hx
  obtain ⟨j, hj⟩ := List.mem_iff_getElem?.1 hx
  have := h j x (by have := (List.getElem?_eq_some_iff.1 hj).1; omega) hj
  simp [this]
theorem find_here {l : List MapD} {p : MapD → Bool} {i : Nat} {x : MapD} (h : ∀ j y, j < i → l[j]? = some y → p y = false) (hx : l[i]? = some x) (hp : p x = true) : l.find? p = some x := by
  rw [List.find?_eq_some_iff_getElem]
  obtain ⟨hl, he⟩ := List.getElem?_eq_some_iff.1 hx
  refine ⟨hp, i, hl, he, fun j hj => ?_⟩
  have := h j _ hj (List.getElem?_eq_getElem (by omega))
  simp [this]
theorem one_len {x : MapD} : ∀ el ∈ [encMap x], el.length = 6 := fun el h => by simp at h; subst h; rfl
theorem one_scal {h : AHeap} {x : MapD} : ∀ el ∈ [encMap x], el.all (solid h) = true := fun el he => by simp at he; subst he; rfl
theorem drop_len (l : List MapD) (va : Int) (i : Nat) : (dropTo l va i).length ≤ l.length := Nat.le_trans (List.length_filter_le _ _) (by simp; omega)
theorem put_len (l : List MapD) (m : MapD) : ∀ i, (putAt l m i).1.length ≤ 2 * i
  | 0 => by simp [putAt]
  | i + 1 => by
    have := put_len l m i
    unfold putAt
    split
    · omega
    · simp only [List.length_append, List.length_singleton]
      split <;> simp <;> omega
end Go.Proofs.Ytpckfpahmnhfcaa.F
