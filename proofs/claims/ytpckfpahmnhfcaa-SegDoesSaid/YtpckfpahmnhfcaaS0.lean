/- Lists of cells that are shifted: what slices.Insert and slices.Delete do, plainly. -/
import Derived.Test.YtpckfpahmnhfcaaG16
namespace Go.Proofs.Ytpckfpahmnhfcaa.F
open Go Go.RowKit Go.Proofs.Ytpckfpahmnhfcaa.G
theorem scal_solid {h : AHeap} {x : AV} (hs : x.scal = true) : solid h x = true := by cases x <;> simp [AV.scal] at hs <;> rfl
theorem scal_all {h : AHeap} {el : List AV} (hs : el.all AV.scal = true) : el.all (solid h) = true := List.all_eq_true.2 fun x hx => scal_solid (List.all_eq_true.1 hs x hx)
theorem scal_flat {h : AHeap} {xs : List (List AV)} (hs : ∀ el ∈ xs, el.all AV.scal = true) : ∀ z ∈ xs.flatten, solid h z = true := fun z hz => by
  obtain ⟨el, h1, h2⟩ := List.mem_flatten.1 hz
  exact scal_solid (List.all_eq_true.1 (hs el h1) z h2)
theorem scal_drop {h : AHeap} {xs : List (List AV)} (hs : ∀ el ∈ xs, el.all AV.scal = true) (i : Nat) : ∀ z ∈ (xs.drop i).flatten, solid h z = true := scal_flat fun el he => hs el (List.mem_of_mem_drop he)
theorem nm64 {a b : Nat} (h : a + b < 4611686018427387904) : AV.int .i64 (IntKind.i64.wrap ((a : Int) + (b : Int))) = .int .i64 ((a + b : Nat) : Int) := by
  have : IntKind.i64.wrap ((a : Int) + (b : Int)) = ((a + b : Nat) : Int) := by rw [IntKind.wrap_i64]; omega
  rw [this]
theorem sub64 {a b : Nat} (h : b ≤ a) (ha : a < 4611686018427387904) : AV.int .i64 (IntKind.i64.wrap ((a : Int) - (b : Int))) = .int .i64 ((a - b : Nat) : Int) := by
  have : IntKind.i64.wrap ((a : Int) - (b : Int)) = ((a - b : Nat) : Int) := by rw [IntKind.wrap_i64]; omega
  rw [this]
theorem len_of_flat {xs : List (List AV)} (h : AV.underL 0 xs.flatten = true) : ∀ el ∈ xs, AV.underL 0 el = true := by
  induction xs with
  | nil => intro el h; cases h
  | cons x xs ih =>
    have key : ∀ (a b : List AV), AV.underL 0 (a ++ b) = true → AV.underL 0 a = true ∧ AV.underL 0 b = true := by
      intro a
      induction a with
      | nil => intro b h; exact ⟨rfl, h⟩
      | cons y a ih => intro b h; simp [AV.underL] at h ⊢; have := ih b h.2; exact ⟨⟨h.1, this.1⟩, this.2⟩
    simp only [List.flatten_cons] at h
    obtain ⟨h1, h2⟩ := key _ _ h
    intro el he
    rcases List.mem_cons.1 he with rfl | he
    · exact h1
    · exact ih h2 el he
theorem ok_nr {ys : List (List AV)} {sz : Nat} {e : TypeId} (h : AV.underL 0 ys.flatten = true) : AHeap.ok [none, some (.row ys sz e)] := fun k B hk => by
  match k, hk with
  | 0, hk => simp at hk
  | 1, hk => simp at hk; subst hk; exact underL_mono (Nat.zero_le _) _ h
  | k + 2, hk => simp at hk
theorem ok_n : AHeap.ok [none] := fun k B hk => by
  match k, hk with
  | 0, hk => simp at hk
  | k + 1, hk => simp at hk

section
variable {xs ys : List (List AV)} {sz : Nat} {cells : List AV} {c : Nat}
theorem cells_len (hx : ∀ el ∈ xs, el.length = sz) (hc : xs.length ≤ c) (h : cells = xs.flatten ++ List.replicate ((c - xs.length) * sz) .any) : cells.length = c * sz := by
  rw [h, List.length_append, List.length_replicate, flatten_len hx, ← Nat.add_mul]; congr 1; omega
theorem flat_split (hx : ∀ el ∈ xs, el.length = sz) (i : Nat) (hi : i ≤ xs.length) : xs.flatten = (xs.take i).flatten ++ (xs.drop i).flatten ∧ (xs.take i).flatten.length = i * sz ∧ (xs.drop i).flatten.length = (xs.length - i) * sz := by
  refine ⟨by rw [← List.flatten_append, List.take_append_drop], ?_, ?_⟩
  · rw [flatten_len fun e he => hx e (List.mem_of_mem_take he), List.length_take]; congr 1; omega
  · rw [flatten_len fun e he => hx e (List.mem_of_mem_drop he), List.length_drop]
theorem part_eq (hx : ∀ el ∈ xs, el.length = sz) (h : cells = xs.flatten ++ List.replicate ((c - xs.length) * sz) .any) (i : Nat) (hi : i ≤ xs.length) : (cells.drop (i * sz)).take ((xs.length - i) * sz) = (xs.drop i).flatten := by
  obtain ⟨e, h1, h2⟩ := flat_split hx i hi
  rw [h, e, List.append_assoc, ← h1, List.drop_left, ← h2, List.take_left]
theorem head_part (hx : ∀ el ∈ xs, el.length = sz) (h : cells = xs.flatten ++ List.replicate ((c - xs.length) * sz) .any) (i : Nat) (hi : i ≤ xs.length) : (cells.drop 0).take (i * sz) = (xs.take i).flatten := by
  obtain ⟨e, h1, h2⟩ := flat_split hx i hi
  rw [h, e, List.drop_zero, List.append_assoc, ← h1, List.take_left]
/-- In place: what follows is shifted, then the new ones are laid in. -/
theorem ins_place (hx : ∀ el ∈ xs, el.length = sz) (hy : ∀ el ∈ ys, el.length = sz) (hc : xs.length + ys.length ≤ c) (h : cells = xs.flatten ++ List.replicate ((c - xs.length) * sz) .any) (i : Nat) (hi : i ≤ xs.length) :
    ∀ (j : Nat) (x : AV), (xs.take i ++ ys ++ xs.drop i).flatten[j]? = some x → (splice (i * sz) ys.flatten (splice ((i + ys.length) * sz) (xs.drop i).flatten cells))[0 + j]? = some x := by
  obtain ⟨e, h1, h2⟩ := flat_split hx i hi
  have hyl := flatten_len hy
  have hcl := cells_len hx (by omega) h
  have hT : cells.take (i * sz) = (xs.take i).flatten := by have := head_part hx h i hi; simpa using this
  have hlen : (cells.take ((i + ys.length) * sz)).length = (i + ys.length) * sz := by
    rw [List.length_take, hcl]; exact Nat.min_eq_left (Nat.mul_le_mul_right _ (by omega))
  have key : ∃ R, splice (i * sz) ys.flatten (splice ((i + ys.length) * sz) (xs.drop i).flatten cells) = (xs.take i).flatten ++ ys.flatten ++ (xs.drop i).flatten ++ R := by
    refine ⟨cells.drop ((i + ys.length) * sz + (xs.drop i).flatten.length), ?_⟩
    have a1 : (splice ((i + ys.length) * sz) (xs.drop i).flatten cells).take (i * sz) = (xs.take i).flatten := by
      unfold splice
      rw [List.append_assoc, List.take_append_of_le_length (by rw [hlen]; exact Nat.mul_le_mul_right _ (by omega)), List.take_take, Nat.min_eq_left (Nat.mul_le_mul_right _ (by omega)), hT]
    have a2 : (splice ((i + ys.length) * sz) (xs.drop i).flatten cells).drop (i * sz + ys.flatten.length) = (xs.drop i).flatten ++ cells.drop ((i + ys.length) * sz + (xs.drop i).flatten.length) := by
      unfold splice
      have : i * sz + ys.flatten.length = (cells.take ((i + ys.length) * sz)).length := by rw [hlen, hyl, Nat.add_mul]
      rw [this, List.append_assoc, List.drop_left]
    rw [splice, a1, a2]; simp
  obtain ⟨R, hR⟩ := key
  intro j x hj
  rw [hR, Nat.zero_add, List.getElem?_append_left]
  · simpa using hj
  · have := (List.getElem?_eq_some_iff.1 hj).1
    simpa using this
/-- In a new block. -/
theorem ins_grow (hx : ∀ el ∈ xs, el.length = sz) (hy : ∀ el ∈ ys, el.length = sz) (h : cells = xs.flatten ++ List.replicate ((c - xs.length) * sz) .any) (i : Nat) (hi : i ≤ xs.length) {c2 : Nat} {cells2 : List AV} (hc2 : xs.length + ys.length ≤ c2) (h2 : cells2 = (cells.drop 0).take (i * sz) ++ List.replicate ((c2 - i) * sz) .any) :
    ∀ (j : Nat) (x : AV), (xs.take i ++ ys ++ xs.drop i).flatten[j]? = some x → (splice ((i + ys.length) * sz) (xs.drop i).flatten (splice (i * sz) ys.flatten cells2))[0 + j]? = some x := by
  obtain ⟨e, h1, h3⟩ := flat_split hx i hi
  have hyl := flatten_len hy
  rw [head_part hx h i hi] at h2
  have key : ∃ R, splice ((i + ys.length) * sz) (xs.drop i).flatten (splice (i * sz) ys.flatten cells2) = (xs.take i).flatten ++ ys.flatten ++ (xs.drop i).flatten ++ R := by
    refine ⟨(splice (i * sz) ys.flatten cells2).drop ((i + ys.length) * sz + (xs.drop i).flatten.length), ?_⟩
    have a1 : (splice (i * sz) ys.flatten cells2).take ((i + ys.length) * sz) = (xs.take i).flatten ++ ys.flatten := by
      unfold splice
      rw [h2, ← h1, List.take_left]
      have : (i + ys.length) * sz = ((xs.take i).flatten ++ ys.flatten).length := by rw [List.length_append, h1, hyl, Nat.add_mul]
      rw [this, List.take_left]
    rw [splice, a1]
  obtain ⟨R, hR⟩ := key
  intro j x hj
  rw [hR, Nat.zero_add, List.getElem?_append_left]
  · simpa using hj
  · have := (List.getElem?_eq_some_iff.1 hj).1
    simpa using this
theorem cells2_len {i : Nat} {T : List AV} (h1 : (cells.drop 0).take (i * sz) = T) (hT : T.length = i * sz) {c2 : Nat} {cells2 : List AV} (hc2 : i ≤ c2) (h2 : cells2 = (cells.drop 0).take (i * sz) ++ List.replicate ((c2 - i) * sz) .any) : cells2.length = c2 * sz := by
  rw [h2, h1, List.length_append, hT, List.length_replicate, ← Nat.add_mul]; congr 1; omega
/-- Some are taken out: what follows is shifted; what stood at the end is forgotten. -/
theorem del_place (hx : ∀ el ∈ xs, el.length = sz) (hc : xs.length ≤ c) (h : cells = xs.flatten ++ List.replicate ((c - xs.length) * sz) .any) (i k : Nat) (hi : i ≤ k) (hk : k ≤ xs.length) {m off : Nat} (hoff : off = (i + (xs.length - k)) * sz) :
    ∀ (j : Nat) (x : AV), (xs.take i ++ xs.drop k).flatten[j]? = some x → (splice off (List.replicate (m * sz) .any) (splice (i * sz) (xs.drop k).flatten cells))[0 + j]? = some x := by
  obtain ⟨_, h1, _⟩ := flat_split hx i (by omega)
  obtain ⟨_, _, h2⟩ := flat_split hx k hk
  have hcl := cells_len hx hc h
  have hT : cells.take (i * sz) = (xs.take i).flatten := by have := head_part hx h i (by omega); simpa using this
  intro j x hj
  have hj' : ((xs.take i).flatten ++ (xs.drop k).flatten)[j]? = some x := by simpa using hj
  have hlt := (List.getElem?_eq_some_iff.1 hj').1
  rw [List.length_append, h1, h2, ← Nat.add_mul] at hlt
  subst hoff
  have e1 : (splice ((i + (xs.length - k)) * sz) (List.replicate (m * sz) AV.any) (splice (i * sz) (xs.drop k).flatten cells))[0 + j]? = (splice (i * sz) (xs.drop k).flatten cells)[j]? := by
    rw [Nat.zero_add]
    have hle : j < ((splice (i * sz) (xs.drop k).flatten cells).take ((i + (xs.length - k)) * sz)).length := by
      rw [List.length_take, splice_length (by rw [h2, hcl, ← Nat.add_mul]; exact Nat.mul_le_mul_right _ (by omega)), hcl]
      exact Nat.lt_min.2 ⟨hlt, Nat.lt_of_lt_of_le hlt (Nat.mul_le_mul_right _ (by omega))⟩
    generalize splice (i * sz) (xs.drop k).flatten cells = C at hle ⊢
    unfold splice
    rw [List.append_assoc, List.getElem?_append_left hle, List.getElem?_take, if_pos hlt]
  rw [e1]
  unfold splice
  rw [hT]
  rw [List.getElem?_append_left (by rw [List.length_append, h1, h2, ← Nat.add_mul]; exact hlt)]
  exact hj'
theorem underL_app : ∀ {a b : List AV}, AV.underL 0 a = true → AV.underL 0 b = true → AV.underL 0 (a ++ b) = true
  | [], b, _, h => h
  | x :: a, b, h, h' => by simp [AV.underL] at h ⊢; exact ⟨h.1, underL_app h.2 h'⟩
theorem rows_len (hx : ∀ el ∈ xs, el.length = sz) (hy : ∀ el ∈ ys, el.length = sz) (i : Nat) : ∀ el ∈ xs.take i ++ ys ++ xs.drop i, el.length = sz := fun el he => by
  simp only [List.mem_append] at he
  rcases he with (he | he) | he
  · exact hx el (List.mem_of_mem_take he)
  · exact hy el he
  · exact hx el (List.mem_of_mem_drop he)
theorem rows_under (hu : AV.underL 0 xs.flatten = true) (huy : AV.underL 0 ys.flatten = true) (i : Nat) : ∀ el ∈ xs.take i ++ ys ++ xs.drop i, AV.underL 0 el = true := fun el he => by
  simp only [List.mem_append] at he
  rcases he with (he | he) | he
  · exact len_of_flat hu el (List.mem_of_mem_take he)
  · exact len_of_flat huy el he
  · exact len_of_flat hu el (List.mem_of_mem_drop he)
end
end Go.Proofs.Ytpckfpahmnhfcaa.F
