/- From what a statement's input is said to be to abstract values: bools, whole numbers, slices, structs, arrays. -/
import Derived.Test.YtpckfpahmnhfcaaG12
namespace Go.Proofs.Ytpckfpahmnhfcaa.G
open Go Go.RowKit
set_option linter.unusedVariables false
set_option linter.unusedSimpArgs false

inductive Typ (T : TT) : TypeId → List AV → Prop
  | bool {t d} (b : Bool) (hd : T t = some d) (hk : d.kind = .bool) : Typ T t [.bool b]
  | int {t d k} (n : Int) (hd : T t = some d) (hk : d.kind = .int k) (hw : (Lit.int k n).wf = true) : Typ T t [.int k n]
  | slice {t d e} (rows : List (List AV)) (hd : T t = some d) (hk : d.kind = .slice e) (h : ∀ el, el ∈ rows → Typ T e el) (hb : rows.length ≤ maxLen) : Typ T t [.list rows]
  | struct {t d fs} (xs : List AV) (hd : T t = some d) (hk : d.kind = .struct fs) (hl : xs.length = d.size) (h : ∀ (q : Nat × TypeId) (fd : TD), q ∈ fs → T q.2 = some fd → Typ T q.2 ((xs.drop q.1).take fd.size)) : Typ T t xs
  | array {t d n e ed} (xs : List AV) (hd : T t = some d) (hk : d.kind = .array n e) (hed : T e = some ed) (hl : xs.length = d.size) (h : ∀ i, i < n → Typ T e ((xs.drop (i * ed.size)).take ed.size)) : Typ T t xs

/-- Fields one behind the other, from an offset on to an end. -/
def tight (T : TT) : Nat → List (Nat × TypeId) → Nat → Bool
  | o, [], n => Nat.beq o n
  | o, (off, ft) :: fs, n => match T ft with
    | some fd => Nat.beq o off && tight T (o + fd.size) fs n
    | none => false
def okT (T : TT) : Nat → TypeId → Bool
  | 0, _ => false
  | f + 1, t => match T t with
    | some d => match d.kind with
      | .bool => Nat.beq d.size 1
      | .int _ => Nat.beq d.size 1
      | .slice e => Nat.beq d.size 1 && okT T f e && (match T e with | some ed => Nat.blt 0 ed.size | none => false)
      | .struct fs => tight T 0 fs d.size && fs.all fun q => okT T f q.2
      | .array n e => okT T f e && (match T e with | some ed => Nat.beq d.size (n * ed.size) | none => false)
      | _ => false
    | none => false

section
variable {P : Program} {T : TT} {H : Type} {enc : TypeId × Value → H}

theorem mapM_some {α β : Type} {f : α → Option β} : ∀ {l : List α} {r : List β}, l.mapM f = some r → r.length = l.length ∧ ∀ (i : Nat) (x : α), l[i]? = some x → ∃ y, f x = some y ∧ r[i]? = some y
  | [], r, h => by simp at h; subst h; exact ⟨rfl, fun i x h => by simp at h⟩
  | a :: l, r, h => by
    simp only [List.mapM_cons, Option.bind_eq_bind, Option.bind_eq_some_iff, Option.pure_def, Option.some.injEq] at h
    obtain ⟨y, hy, ys, hys, rfl⟩ := h
    obtain ⟨h1, h2⟩ := mapM_some hys
    refine ⟨by simp [h1], fun i x hx => ?_⟩
    cases i with
    | zero => simp at hx; subst hx; exact ⟨y, hy, rfl⟩
    | succ i => simpa using h2 i x (by simpa using hx)

/-- Cells and their abstract values, side by side. -/
def Side (w : World) (S : Nat → Prop) (cs : List Value) (xs : List AV) : Prop := xs.length = cs.length ∧ ∀ (j : Nat) (x : AV), xs[j]? = some x → Rep w S Phi.nil (cs.getD j Go.undef) x
theorem side_app {w : World} {S : Nat → Prop} {cs ds : List Value} {xs ys : List AV} (h : Side w S cs xs) (h' : Side w S ds ys) : Side w S (cs ++ ds) (xs ++ ys) := by
  refine ⟨by simp [h.1, h'.1], fun j x hj => ?_⟩
  rcases Nat.lt_or_ge j xs.length with hlt | hge
  · rw [List.getElem?_append_left hlt] at hj
    have := h.2 j x hj
    rw [List.getD_eq_getElem?_getD, List.getElem?_append_left (by rw [← h.1]; exact hlt)]
    rwa [List.getD_eq_getElem?_getD] at this
  · rw [List.getElem?_append_right hge] at hj
    have := h'.2 _ x hj
    rw [List.getD_eq_getElem?_getD, List.getElem?_append_right (by rw [← h.1]; exact hge), ← h.1]
    rwa [List.getD_eq_getElem?_getD] at this

theorem fields_side {w : World} {S : Nat → Prop} {cs : List Value} (g : Nat × TypeId → TD → Prop → Prop) : ∀ (fs : List (Nat × TypeId)) (o n : Nat), tight T o fs n = true → n ≤ cs.length → o ≤ n →
    (∀ q ∈ fs, ∀ fd, T q.2 = some fd → ∃ xs, Typ T q.2 xs ∧ Side w S ((cs.drop q.1).take fd.size) xs) → ∃ xs, Side w S ((cs.drop o).take (n - o)) xs ∧ ∀ q ∈ fs, ∀ fd, T q.2 = some fd → o ≤ q.1 ∧ Typ T q.2 ((xs.drop (q.1 - o)).take fd.size)
  | [], o, n, ht, hn, ho, _ => by
    have := Nat.eq_of_beq_eq_true ht
    subst this
    exact ⟨[], ⟨by simp, fun j x h => by simp at h⟩, fun q hq => by cases hq⟩
  | (off, ft) :: fs, o, n, ht, hn, ho, hf => by
    unfold tight at ht
    split at ht
    · rename_i fd hfd
      simp only [Bool.and_eq_true] at ht
      have hoff := Nat.eq_of_beq_eq_true ht.1
      subst hoff
      have hle : ∀ (fs : List (Nat × TypeId)) (o n : Nat), tight T o fs n = true → o ≤ n := by
        intro fs
        induction fs with
        | nil => intro o n h; have := Nat.eq_of_beq_eq_true h; omega
        | cons q fs ih =>
          intro o n h
          obtain ⟨a, b⟩ := q
          unfold tight at h
          split at h
          · simp only [Bool.and_eq_true] at h; have := ih _ _ h.2; omega
          · cases h
      have ho2 := hle fs _ _ ht.2
      obtain ⟨xs, hx1, hx2⟩ := hf (o, ft) (by simp) fd hfd
      obtain ⟨ys, hy1, hy2⟩ := fields_side g fs (o + fd.size) n ht.2 hn ho2 (fun q hq => hf q (by simp [hq]))
      have hxl : xs.length = fd.size := by rw [hx2.1]; simp; omega
      refine ⟨xs ++ ys, ?_, fun q hq fd' hfd' => ?_⟩
      · have : (cs.drop o).take (n - o) = (cs.drop o).take fd.size ++ (cs.drop (o + fd.size)).take (n - (o + fd.size)) := by
          rw [← List.drop_drop, show n - o = fd.size + (n - (o + fd.size)) by omega, List.take_add]
        rw [this]
        exact side_app hx2 hy1
      · rcases List.mem_cons.1 hq with rfl | hq
        · rw [hfd] at hfd'; cases hfd'
          refine ⟨Nat.le_refl _, ?_⟩
          rw [Nat.sub_self, List.drop_zero, List.take_append_of_le_length (by omega), ← hxl, List.take_length]
          exact hx1
        · obtain ⟨h1, h2⟩ := hy2 q hq fd' hfd'
          refine ⟨by omega, ?_⟩
          have : (xs ++ ys).drop (q.1 - o) = ys.drop (q.1 - (o + fd.size)) := by
            rw [List.drop_append, List.drop_eq_nil_of_le (by omega), List.nil_append]; congr 1; omega
          rw [this]; exact h2
    · cases ht

theorem items_side {w : World} {S : Nat → Prop} {cs : List Value} {e : TypeId} {sz : Nat} : ∀ (n o : Nat), (o + n) * sz ≤ cs.length → (∀ i, i < n → ∃ xs, Typ T e xs ∧ Side w S ((cs.drop ((o + i) * sz)).take sz) xs) →
    ∃ xs, Side w S ((cs.drop (o * sz)).take (n * sz)) xs ∧ ∀ i, i < n → Typ T e ((xs.drop (i * sz)).take sz)
  | 0, o, _, _ => ⟨[], ⟨by simp, fun j x h => by simp at h⟩, fun i hi => by omega⟩
  | n + 1, o, hl, hf => by
    obtain ⟨xs, hx1, hx2⟩ := hf 0 (by omega)
    simp only [Nat.add_zero] at hx2
    have e1 : (o + (n + 1)) * sz = o * sz + (n * sz + sz) := by rw [Nat.add_mul, Nat.add_mul, Nat.one_mul]
    have e2 : (o + 1) * sz = o * sz + sz := by rw [Nat.add_mul, Nat.one_mul]
    obtain ⟨ys, hy1, hy2⟩ := items_side n (o + 1) (by rw [show o + 1 + n = o + (n + 1) by omega]; exact hl) (fun i hi => by
      have := hf (i + 1) (by omega)
      rwa [show o + (i + 1) = o + 1 + i by omega] at this)
    have hxl : xs.length = sz := by rw [hx2.1]; simp; omega
    refine ⟨xs ++ ys, ?_, fun i hi => ?_⟩
    · have : (cs.drop (o * sz)).take ((n + 1) * sz) = (cs.drop (o * sz)).take sz ++ (cs.drop ((o + 1) * sz)).take (n * sz) := by
        rw [e2, ← List.drop_drop, show (n + 1) * sz = sz + n * sz by rw [Nat.add_mul, Nat.one_mul]; omega, List.take_add]
      rw [this]
      exact side_app hx2 hy1
    · cases i with
      | zero => rw [Nat.zero_mul, List.drop_zero, List.take_append_of_le_length (by omega), ← hxl, List.take_length]; exact hx1
      | succ i =>
        have : (xs ++ ys).drop ((i + 1) * sz) = ys.drop (i * sz) := by
          rw [List.drop_append, List.drop_eq_nil_of_le (by rw [hxl, Nat.add_mul]; omega), List.nil_append, hxl]; congr 1; rw [Nat.add_mul, Nat.one_mul]; omega
        rw [this]; exact hy2 i (by omega)

theorem addr_plain {w : World} {a : Addr} {v : Value} (h : w.cell? a = some v) : a.spot = none ∧ a.block < w.heap.size := by
  unfold World.cell? at h
  split at h
  · rename_i c e z hc
    split at h
    · cases h
    · rename_i hs
      exact ⟨by simpa using hs, (Array.getElem?_eq_some_iff.1 hc).1⟩
  · cases h

theorem cells_side {w : World} {base : Nat} {a : Addr} {n : Nat} {cs : List Value} (h : w.cells? base a n = some cs) : cs.length = n ∧ ∀ j, j < n → ∃ v, w.cell? (a.add j) = some v ∧ cs[j]? = some v := by
  unfold World.cells? at h
  split at h
  · obtain ⟨h1, h2⟩ := mapM_some h
    refine ⟨by simpa using h1, fun j hj => ?_⟩
    obtain ⟨v, hv, hc⟩ := h2 j j (by simp [hj])
    exact ⟨v, hv, hc⟩
  · cases h

theorem trod_typ (hT : TOk P T) {w : World} : ∀ (fuel : Nat) (t : TypeId) (cs : List Value) (d : DataW H) (ps : List MemPlace) (f2 : Nat) (td : TD), DataW.trod enc P w 0 (fun _ => true) true fuel t cs = some (d, ps) → okT T f2 t = true → T t = some td → cs.length = td.size →
    ∃ xs, Typ T t xs ∧ Side w (fun b => b < w.heap.size) cs xs
  | 0, t, cs, d, ps, f2, td, h, _, _, _ => by simp [DataW.trod] at h
  | fuel + 1, t, cs, d, ps, 0, td, h, hok, _, _ => by simp [okT] at hok
  | fuel + 1, t, cs, d, ps, f2 + 1, td, h, hok, htd, hl => by
    obtain ⟨i, ut, h1, h2, h3, _, h5, _⟩ := hT.get htd
    simp only [okT, htd] at hok
    cases hkind : td.kind with
    | bool =>
      rw [hkind] at hok h5
      rw [kind_bool h5] at h2
      rw [Nat.eq_of_beq_eq_true hok] at hl
      obtain ⟨v, rfl⟩ := List.length_eq_one_iff.1 hl
      cases v <;> simp [DataW.trod, h2] at h
      rename_i b
      exact ⟨[.bool b], .bool b htd hkind, rfl, fun j x hj => by
        cases j with
        | zero => simp at hj; subst hj; exact .bool b
        | succ j => simp at hj⟩
    | int k =>
      rw [hkind] at hok h5
      rw [kind_int h5] at h2
      rw [Nat.eq_of_beq_eq_true hok] at hl
      obtain ⟨v, rfl⟩ := List.length_eq_one_iff.1 hl
      cases v <;> simp [DataW.trod, h2] at h
      rename_i k' n
      obtain ⟨⟨rfl, hw⟩, _⟩ := h
      exact ⟨[.int k' n], .int n htd hkind hw, rfl, fun j x hj => by
        cases j with
        | zero => simp at hj; subst hj; exact .int k' n
        | succ j => simp at hj⟩
    | slice e =>
      rw [hkind] at hok h5
      rw [kind_slice h5] at h2
      simp only [Bool.and_eq_true] at hok
      obtain ⟨⟨hs1, hoe⟩, hpos⟩ := hok
      split at hpos
      · rename_i ed hed
        have hpos : 0 < ed.size := Nat.le_of_ble_eq_true hpos
        obtain ⟨ie, ue, k1, k2, k3, _⟩ := hT.get hed
        have hce : P.cellsOf e = ed.size := by simp [Program.cellsOf, k1, k3]
        rw [Nat.eq_of_beq_eq_true hs1] at hl
        obtain ⟨v, rfl⟩ := List.length_eq_one_iff.1 hl
        have one : ∀ rows : List (List AV), rows.length ≤ maxLen → (∀ el, el ∈ rows → Typ T e el) → Rep w (fun b => b < w.heap.size) Phi.nil v (.list rows) → ∃ xs, Typ T t xs ∧ Side w (fun b => b < w.heap.size) [v] xs := fun rows hb hr hv => ⟨[.list rows], .slice rows htd hkind hr hb, rfl, fun j x hj => by
          cases j with
          | zero => simp at hj; subst hj; exact hv
          | succ j => simp at hj⟩
        cases v with
        | slice A len cap =>
          cases A with
          | none =>
            unfold DataW.trod at h
            rw [h2] at h
            cases len with
            | zero => exact one [] (Nat.zero_le _) (fun el he => by cases he) .nil
            | succ n => cases cap <;> simp at h
          | some a =>
            unfold DataW.trod at h
            rw [h2] at h
            simp only at h
            split at h
            · rename_i hb
              simp only [Option.bind_eq_some_iff, Option.map_eq_some_iff] at h
              obtain ⟨elems, hel, rest, hrest, _⟩ := h
              obtain ⟨m1, m2⟩ := mapM_some hel
              by_cases hz : len = 0
              · subst hz; exact one [] (Nat.zero_le _) (fun el he => by cases he) .nil
              · -- each element
                have each : ∀ i, i < len → ∃ cs xs, cs.length = ed.size ∧ (∀ j, j < ed.size → ∃ v, w.cell? ((a.add (i * ed.size)).add j) = some v ∧ cs[j]? = some v) ∧ Typ T e xs ∧ Side w (fun b => b < w.heap.size) cs xs := fun i hi => by
                  obtain ⟨y, hy, _⟩ := m2 i i (by simp [hi])
                  simp only [Option.bind_eq_some_iff] at hy
                  obtain ⟨cs, hc, hy⟩ := hy
                  rw [hce] at hc
                  obtain ⟨c1, c2⟩ := cells_side hc
                  obtain ⟨xs, x1, x2⟩ := trod_typ hT fuel e cs y.1 y.2 f2 ed hy hoe hed c1
                  exact ⟨cs, xs, c1, c2, x1, x2⟩
                have hplain : a.spot = none ∧ a.block < w.heap.size := by
                  obtain ⟨cs, xs, _, c2, _⟩ := each 0 (by omega)
                  obtain ⟨v, hv, _⟩ := c2 0 hpos
                  have : (a.add (0 * ed.size)).add 0 = a := by simp [Addr.add]
                  rw [this] at hv
                  exact addr_plain hv
                obtain ⟨ab, ao, asp⟩ := a
                obtain ⟨rfl, hblk⟩ := hplain
                obtain ⟨rows, r1, r2⟩ : ∃ rows : List (List AV), rows.length = len ∧ ∀ i el, rows[i]? = some el → i < len ∧ el.length = ed.size ∧ Typ T e el ∧ ∀ j x, el[j]? = some x → ∃ v, w.cell? ⟨ab, ao + (i * ed.size + j), none⟩ = some v ∧ Rep w (fun b => b < w.heap.size) Phi.nil v x := by
                  have key : ∀ n, n ≤ len → ∃ rows : List (List AV), rows.length = n ∧ ∀ i el, rows[i]? = some el → i < len ∧ el.length = ed.size ∧ Typ T e el ∧ ∀ j x, el[j]? = some x → ∃ v, w.cell? ⟨ab, ao + (i * ed.size + j), none⟩ = some v ∧ Rep w (fun b => b < w.heap.size) Phi.nil v x := by
                    intro n
                    induction n with
                    | zero => intro _; exact ⟨[], rfl, fun i el h => by simp at h⟩
                    | succ n ih =>
                      intro hn
                      obtain ⟨rows, e1, e2⟩ := ih (by omega)
                      obtain ⟨cs, xs, c1, c2, x1, x2⟩ := each n (by omega)
                      refine ⟨rows ++ [xs], by simp [e1], fun i el hi => ?_⟩
                      rcases Nat.lt_or_ge i rows.length with hlt | hge
                      · rw [List.getElem?_append_left hlt] at hi; exact e2 i el hi
                      · rw [List.getElem?_append_right hge] at hi
                        have hi0 : i - rows.length = 0 := by have := (List.getElem?_eq_some_iff.1 hi).1; simp at this; omega
                        rw [hi0] at hi
                        simp at hi
                        subst hi
                        have hin : i = n := by omega
                        subst hin
                        refine ⟨by omega, by rw [x2.1, c1], x1, fun j x hj => ?_⟩
                        have hjl : j < ed.size := by rw [← c1, ← x2.1]; exact (List.getElem?_eq_some_iff.1 hj).1
                        obtain ⟨v, hv, hcv⟩ := c2 j hjl
                        rw [addr_add, addr_add, Nat.add_assoc] at hv
                        refine ⟨v, hv, ?_⟩
                        have := x2.2 j x hj
                        rwa [List.getD_eq_getElem?_getD, hcv] at this
                  exact key len (Nat.le_refl _)
                have hev : ∀ el ∈ rows, el.length = ed.size := fun el he => by
                  obtain ⟨i, hi⟩ := List.mem_iff_getElem?.1 he
                  exact (r2 i el hi).2.1
                have hflat : ∀ (j : Nat) (x : AV), rows.flatten[j]? = some x → ∃ v, w.cell? ⟨ab, ao + j, none⟩ = some v ∧ Rep w (fun b => b < w.heap.size) Phi.nil v x := fun j x hj => by
                  have hjl := (List.getElem?_eq_some_iff.1 hj).1
                  rw [flatten_len hev] at hjl
                  have hq : j / ed.size < rows.length := by rw [Nat.div_lt_iff_lt_mul hpos]; exact hjl
                  obtain ⟨el, hel'⟩ : ∃ el, rows[j / ed.size]? = some el := ⟨_, List.getElem?_eq_getElem hq⟩
                  obtain ⟨_, q2, _, q4⟩ := r2 _ el hel'
                  have hm : j % ed.size < el.length := by rw [q2]; exact Nat.mod_lt _ hpos
                  have hdm : j / ed.size * ed.size + j % ed.size = j := by rw [Nat.mul_comm]; exact Nat.div_add_mod j ed.size
                  have hg := flatten_get rows ed.size (j / ed.size) (j % ed.size) el hev hel' hm
                  rw [hdm, hj] at hg
                  obtain ⟨v, hv, hvr⟩ := q4 _ x hg.symm
                  rw [hdm] at hv
                  exact ⟨v, hv, hvr⟩
                refine one rows (by rw [r1]; exact Nat.le_trans hb.2.1 hb.2.2) (fun el he => ?_) ?_
                · obtain ⟨i, hi⟩ := List.mem_iff_getElem?.1 he
                  exact (r2 i el hi).2.2.1
                · refine .list (sz := ed.size) (fun j => (w.cell? ⟨ab, ao + j, none⟩).getD Go.undef) hblk r1 hb.2.1 hev (fun j x hj => ?_) (fun j x hj => ?_)
                  · obtain ⟨v, hv, _⟩ := hflat j x hj
                    rw [hv]; rfl
                  · obtain ⟨v, hv, hvr⟩ := hflat j x hj
                    rw [hv]; exact hvr
            · cases h
        | _ => simp [DataW.trod, h2] at h
      · cases hpos
    | struct fs =>
      rw [hkind] at hok h5
      obtain ⟨F, rfl, hF⟩ := kind_struct h5
      simp only [Bool.and_eq_true] at hok
      obtain ⟨hti, hall⟩ := hok
      have htr : (F.toList.mapM fun f => DataW.trod enc P w 0 (fun _ => true) true fuel f.type ((cs.drop f.offset).take (P.cellsOf f.type))).isSome = true := by
        unfold DataW.trod at h
        rw [h2] at h
        simp only at h
        split at h
        · simp only [Option.map_eq_some_iff] at h
          obtain ⟨xs, hxs, _⟩ := h
          rw [hxs]; rfl
        · cases h
      obtain ⟨rs, hrs⟩ := Option.isSome_iff_exists.1 htr
      obtain ⟨m1, m2⟩ := mapM_some hrs
      obtain ⟨xs, hx1, hx2⟩ := fields_side (w := w) (S := fun b => b < w.heap.size) (cs := cs) (fun _ _ p => p) fs 0 td.size hti (by omega) (Nat.zero_le _) (fun q hq fd hfd => by
        rw [← hF] at hq
        obtain ⟨f, hf, rfl⟩ := List.mem_map.1 hq
        obtain ⟨j, hj⟩ := List.mem_iff_getElem?.1 hf
        obtain ⟨y, hy, _⟩ := m2 j f hj
        obtain ⟨ie, ue, k1, k2, k3, _⟩ := hT.get hfd
        have hce : P.cellsOf f.type = fd.size := by simp [Program.cellsOf, k1, k3]
        rw [hce] at hy
        have hofs : f.offset + fd.size ≤ cs.length := by
          have key : ∀ (fs : List (Nat × TypeId)) (o n : Nat), tight T o fs n = true → o ≤ n ∧ ∀ q ∈ fs, ∀ fd, T q.2 = some fd → q.1 + fd.size ≤ n := by
            intro fs
            induction fs with
            | nil => intro o n h; exact ⟨by have := Nat.eq_of_beq_eq_true h; omega, fun q hq => by cases hq⟩
            | cons q fs ih =>
              intro o n h
              obtain ⟨a, b⟩ := q
              unfold tight at h
              split at h
              · rename_i fd1 hfd1
                simp only [Bool.and_eq_true] at h
                have e1 := Nat.eq_of_beq_eq_true h.1
                obtain ⟨e2, e3⟩ := ih _ _ h.2
                refine ⟨by omega, fun q hq fd hfd => ?_⟩
                rcases List.mem_cons.1 hq with rfl | hq
                · rw [hfd1] at hfd; cases hfd; simp only; omega
                · exact e3 q hq fd hfd
              · cases h
          have := (key fs 0 td.size hti).2 (f.offset, f.type) (by rw [← hF]; exact hq) fd hfd
          simp only at this; omega
        exact trod_typ hT fuel f.type _ y.1 y.2 f2 fd hy (List.all_eq_true.1 hall (f.offset, f.type) (by rw [← hF]; exact hq)) hfd (by simp; omega))
      simp only [List.drop_zero, Nat.sub_zero] at hx1
      rw [← hl, List.take_length] at hx1
      exact ⟨xs, .struct xs htd hkind (by rw [hx1.1, hl]) (fun q fd hq hfd => by have := (hx2 q hq fd hfd).2; rwa [Nat.sub_zero] at this), hx1⟩
    | array n e =>
      rw [hkind] at hok h5
      rw [kind_array h5] at h2
      simp only [Bool.and_eq_true] at hok
      obtain ⟨hoe, hsz⟩ := hok
      split at hsz
      · rename_i ed hed
        have hsz := Nat.eq_of_beq_eq_true hsz
        obtain ⟨ie, ue, k1, k2, k3, _⟩ := hT.get hed
        have hce : P.cellsOf e = ed.size := by simp [Program.cellsOf, k1, k3]
        have htr : ((List.range n).mapM fun i => DataW.trod enc P w 0 (fun _ => true) true fuel e ((cs.drop (i * P.cellsOf e)).take (P.cellsOf e))).isSome = true := by
          unfold DataW.trod at h
          rw [h2] at h
          simp only at h
          split at h
          · simp only [Option.map_eq_some_iff] at h
            obtain ⟨xs, hxs, _⟩ := h
            rw [hxs]; rfl
          · cases h
        obtain ⟨rs, hrs⟩ := Option.isSome_iff_exists.1 htr
        obtain ⟨m1, m2⟩ := mapM_some hrs
        obtain ⟨xs, hx1, hx2⟩ := items_side (T := T) (w := w) (S := fun b => b < w.heap.size) (cs := cs) (e := e) (sz := ed.size) n 0 (by rw [Nat.zero_add]; omega) (fun i hi => by
          obtain ⟨y, hy, _⟩ := m2 i i (by simp [hi])
          rw [hce] at hy
          rw [Nat.zero_add]
          have : (i + 1) * ed.size ≤ n * ed.size := Nat.mul_le_mul_right _ hi
          rw [Nat.add_mul, Nat.one_mul] at this
          exact trod_typ hT fuel e _ y.1 y.2 f2 ed hy hoe hed (by simp; omega))
        simp only [Nat.zero_mul, List.drop_zero] at hx1
        rw [← hsz, ← hl, List.take_length] at hx1
        exact ⟨xs, .array xs htd hkind hed (by rw [hx1.1, hl]) hx2, hx1⟩
      · cases hsz
    | _ => rw [hkind] at hok; simp at hok
end
end Go.Proofs.Ytpckfpahmnhfcaa.G
