/- The ghost machine: regions that draw their order, in which operations store into variables, old or new ones: each may run at any time that the order leaves open. -/
import Derived.Test.YtpckfpahmnhfcaaG23
namespace Go.Proofs.Ytpckfpahmnhfcaa.G
open Go Go.RowKit
set_option linter.unusedVariables false
set_option linter.unusedSimpArgs false

/-! ### stores, as plain steps on heaps -/
def setB (H : AHeap) (k off : Nat) (vs : List AV) : AHeap := match H[k]? with
  | some (some (.var cs)) => H.set k (some (.var (splice off vs cs)))
  | _ => H
/-- A store: which operation, into which block, at which place, which values. -/
structure Sto where
  i : Nat
  k : Nat
  off : Nat
  vs : List AV
def appS (L : Nat → Bool) : List Sto → AHeap → AHeap
  | [], H => H
  | s :: r, H => appS L r (match L s.i with | true => setB H s.k s.off s.vs | false => H)
def mskS : List Sto → AHeap → AHeap
  | [], H => H
  | s :: r, H => mskS r (setB H s.k s.off (s.vs.map fun _ => .any))
theorem setB_length (H : AHeap) (k off : Nat) (vs : List AV) : (setB H k off vs).length = H.length := by
  unfold setB; split <;> simp
theorem setB_ne {H : AHeap} {k off j : Nat} {vs : List AV} (h : j ≠ k) : (setB H k off vs)[j]? = H[j]? := by
  unfold setB; split
  · exact List.getElem?_set_ne (fun e => h e.symm)
  · rfl
theorem setB_eq {H : AHeap} {k off : Nat} {vs cs : List AV} (h : H[k]? = some (some (.var cs))) : (setB H k off vs)[k]? = some (some (.var (splice off vs cs))) := by
  have hl := (List.getElem?_eq_some_iff.1 h).1
  simp only [setB, h]; exact List.getElem?_set_self hl
theorem setB_no {H : AHeap} {k off : Nat} {vs : List AV} (h : ∀ cs, H[k]? ≠ some (some (.var cs))) : setB H k off vs = H := by
  unfold setB; split
  · rename_i cs hc; exact absurd hc (h cs)
  · rfl
def Fits (H : AHeap) (s : Sto) : Prop := ∀ cs, H[s.k]? = some (some (.var cs)) → s.off + s.vs.length ≤ cs.length
theorem splice_get (off : Nat) (vs cs : List AV) (h : off + vs.length ≤ cs.length) (j : Nat) : (splice off vs cs)[j]? = if j < off then cs[j]? else if j < off + vs.length then vs[j - off]? else cs[j]? := by
  unfold splice
  have h1 : (cs.take off).length = off := by simp; omega
  split
  · rename_i hj
    rw [List.append_assoc, List.getElem?_append_left (by omega), List.getElem?_take, if_pos hj]
  · rename_i hj
    rw [List.append_assoc, List.getElem?_append_right (by omega), h1]
    split
    · rw [List.getElem?_append_left (by omega)]
    · rw [List.getElem?_append_right (by omega), List.getElem?_drop]; congr 1; omega
theorem fits_setB {H : AHeap} {s t : Sto} (hs : Fits H s) (ht : Fits H t) : Fits (setB H t.k t.off t.vs) s := fun cs h => by
  by_cases e : s.k = t.k
  · cases hb : H[t.k]? with
    | none => rw [setB_no (by simp [hb])] at h; exact hs cs h
    | some x =>
      cases x with
      | none => rw [setB_no (by simp [hb])] at h; exact hs cs h
      | some B =>
        cases B with
        | row a b c => rw [setB_no (by simp [hb])] at h; exact hs cs h
        | var ds =>
          rw [e, setB_eq hb] at h
          cases h
          rw [splice_length (ht ds hb)]
          exact hs ds (e ▸ hb)
  · rw [setB_ne e] at h; exact hs cs h
def Dis (s t : Sto) : Prop := s.k ≠ t.k ∨ s.off + s.vs.length ≤ t.off ∨ t.off + t.vs.length ≤ s.off
theorem setB_comm {H : AHeap} {s t : Sto} (hs : Fits H s) (ht : Fits H t) (hd : Dis s t) : setB (setB H s.k s.off s.vs) t.k t.off t.vs = setB (setB H t.k t.off t.vs) s.k s.off s.vs := by
  apply List.ext_getElem?
  intro j
  by_cases e : s.k = t.k
  · by_cases hj : j = s.k
    · subst hj
      cases hb : H[s.k]? with
      | none =>
        have hb' : H[t.k]? = none := e ▸ hb
        rw [setB_no (H := H) (k := s.k) (by simp [hb]), setB_no (H := H) (k := t.k) (by simp [hb']), setB_no (H := H) (k := s.k) (by simp [hb])]
      | some x =>
        cases x with
        | none =>
          have hb' : H[t.k]? = some none := e ▸ hb
          rw [setB_no (H := H) (k := s.k) (by simp [hb]), setB_no (H := H) (k := t.k) (by simp [hb']), setB_no (H := H) (k := s.k) (by simp [hb])]
        | some B =>
          cases B with
          | row a b c =>
            have hb' : H[t.k]? = some (some (.row a b c)) := e ▸ hb
            rw [setB_no (H := H) (k := s.k) (by simp [hb]), setB_no (H := H) (k := t.k) (by simp [hb']), setB_no (H := H) (k := s.k) (by simp [hb])]
          | var cs =>
            have hb' : H[t.k]? = some (some (.var cs)) := e ▸ hb
            have e1 := setB_eq (off := s.off) (vs := s.vs) hb
            have e2 := setB_eq (off := t.off) (vs := t.vs) hb'
            rw [← e] at e2 ⊢
            rw [setB_eq (by exact e1), setB_eq (by exact e2)]
            have f1 := hs cs hb
            have f2 := ht cs hb'
            congr 3
            apply List.ext_getElem?
            intro q
            have g1 := splice_length f1
            have g2 := splice_length f2
            rw [splice_get t.off t.vs (splice s.off s.vs cs) (by omega), splice_get s.off s.vs (splice t.off t.vs cs) (by omega), splice_get s.off s.vs cs f1, splice_get t.off t.vs cs f2]
            rcases hd with hd | hd | hd
            · exact absurd e hd
            · (repeat' split) <;> first | rfl | omega
            · (repeat' split) <;> first | rfl | omega
    · rw [setB_ne (by omega), setB_ne hj, setB_ne hj, setB_ne (by omega)]
  · by_cases hj : j = s.k
    · subst hj
      rw [setB_ne e]
      cases hb : H[s.k]? with
      | none => rw [setB_no (by simp [hb]), setB_no (by rw [setB_ne e]; simp [hb]), setB_ne e]
      | some x =>
        cases x with
        | none => rw [setB_no (by simp [hb]), setB_no (by rw [setB_ne e]; simp [hb]), setB_ne e]
        | some B =>
          cases B with
          | row a b c => rw [setB_no (by simp [hb]), setB_no (by rw [setB_ne e]; simp [hb]), setB_ne e]
          | var cs => rw [setB_eq hb, setB_eq (by rw [setB_ne e]; exact hb)]
    · by_cases hj' : j = t.k
      · subst hj'
        have e' : t.k ≠ s.k := fun h => e h.symm
        rw [setB_ne (H := setB H t.k t.off t.vs) hj]
        cases hb : H[t.k]? with
        | none => rw [setB_no (H := H) (k := t.k) (by simp [hb]), setB_no (by rw [setB_ne e']; simp [hb]), setB_ne e']
        | some x =>
          cases x with
          | none => rw [setB_no (H := H) (k := t.k) (by simp [hb]), setB_no (by rw [setB_ne e']; simp [hb]), setB_ne e']
          | some B =>
            cases B with
            | row a b c => rw [setB_no (H := H) (k := t.k) (by simp [hb]), setB_no (by rw [setB_ne e']; simp [hb]), setB_ne e']
            | var cs => rw [setB_eq hb, setB_eq (by rw [setB_ne e']; exact hb)]
      · rw [setB_ne hj', setB_ne hj, setB_ne hj, setB_ne hj']
theorem appS_length (L : Nat → Bool) : ∀ (SS : List Sto) (H : AHeap), (appS L SS H).length = H.length
  | [], H => rfl
  | s :: r, H => by
    simp only [appS]; rw [appS_length L r]; split
    · exact setB_length ..
    · rfl
theorem fits_app (L : Nat → Bool) {t : Sto} : ∀ (SS : List Sto) (H : AHeap), (∀ s ∈ SS, Fits H s) → Fits H t → Fits (appS L SS H) t
  | [], H, _, h => h
  | s :: r, H, hf, h => by
    simp only [appS]
    split
    · exact fits_app L r _ (fun q hq => fits_setB (hf q (by simp [hq])) (hf s (by simp))) (fits_setB h (hf s (by simp)))
    · exact fits_app L r H (fun q hq => hf q (by simp [hq])) h
theorem appS_push (L : Nat → Bool) {t : Sto} : ∀ (SS : List Sto) (H : AHeap), (∀ s ∈ SS, Fits H s) → Fits H t → (∀ s ∈ SS, Dis t s) → appS L SS (setB H t.k t.off t.vs) = setB (appS L SS H) t.k t.off t.vs
  | [], H, _, _, _ => rfl
  | s :: r, H, hf, ht, hd => by
    simp only [appS]
    split
    · rw [setB_comm ht (hf s (by simp)) (hd s (by simp))]
      exact appS_push L r _ (fun q hq => fits_setB (hf q (by simp [hq])) (hf s (by simp))) (fits_setB ht (hf s (by simp))) (fun q hq => hd q (by simp [hq]))
    · exact appS_push L r H (fun q hq => hf q (by simp [hq])) ht (fun q hq => hd q (by simp [hq]))
theorem appS_congr {L L' : Nat → Bool} : ∀ (SS : List Sto) (H : AHeap), (∀ s ∈ SS, L s.i = L' s.i) → appS L SS H = appS L' SS H
  | [], H, _ => rfl
  | s :: r, H, h => by simp only [appS, h s (by simp)]; exact appS_congr r _ fun q hq => h q (by simp [hq])
/-- One store more is listed. -/
theorem appS_add {L : Nat → Bool} {t : Sto} : ∀ (SS : List Sto) (H : AHeap), (∀ s ∈ SS, Fits H s) → SS.Pairwise (fun a b => Dis a b ∧ a.i ≠ b.i) → t ∈ SS → L t.i = false → appS (fun j => if j = t.i then true else L j) SS H = setB (appS L SS H) t.k t.off t.vs
  | [], H, _, _, h, _ => by simp at h
  | s :: r, H, hf, hp, hm, hl => by
    rw [List.pairwise_cons] at hp
    by_cases e : s = t
    · subst e
      simp only [appS, if_pos, hl]
      rw [appS_congr (L' := L) r _ (fun q hq => if_neg (fun h => (hp.1 q hq).2 h.symm))]
      exact appS_push L r H (fun q hq => hf q (by simp [hq])) (hf s (by simp)) (fun q hq => (hp.1 q hq).1)
    · have hm' : t ∈ r := by
        rcases List.mem_cons.1 hm with h | h
        · exact absurd h.symm e
        · exact h
      have hne : s.i ≠ t.i := (hp.1 t hm').2
      simp only [appS, if_neg hne]
      exact appS_add r _ (fun q hq => by
        split
        · exact fits_setB (hf q (by simp [hq])) (hf s (by simp))
        · exact hf q (by simp [hq])) hp.2 hm' hl
theorem appS_slot {L : Nat → Bool} {q : Nat} {x : Option Blk} : ∀ (SS : List Sto) (H : AHeap), (∀ s ∈ SS, L s.i = true → s.k ≠ q) → appS L SS (H.set q x) = (appS L SS H).set q x
  | [], H, _ => rfl
  | s :: r, H, h => by
    have ih := fun H => appS_slot (L := L) (q := q) (x := x) r H fun t ht => h t (by simp [ht])
    simp only [appS]
    cases hl : L s.i with
    | false => exact ih H
    | true =>
      have hne := h s (by simp) hl
      have : setB (H.set q x) s.k s.off s.vs = (setB H s.k s.off s.vs).set q x := by
        have hg : (H.set q x)[s.k]? = H[s.k]? := List.getElem?_set_ne (fun e => hne e.symm)
        unfold setB
        rw [hg]
        split
        · exact List.set_comm _ _ (fun e => hne e.symm)
        · rfl
      simp only [this]
      exact ih _
theorem appS_other {L : Nat → Bool} {q : Nat} : ∀ (SS : List Sto) (H : AHeap), (∀ s ∈ SS, L s.i = true → s.k ≠ q) → (appS L SS H)[q]? = H[q]?
  | [], H, _ => rfl
  | s :: r, H, h => by
    have ih := fun H => appS_other (L := L) (q := q) r H fun t ht => h t (by simp [ht])
    simp only [appS]
    cases hl : L s.i with
    | false => exact ih H
    | true => rw [ih, setB_ne (fun e => h s (by simp) hl e.symm)]
/-- A variable stays a variable. -/
theorem appS_var {L : Nat → Bool} {q : Nat} : ∀ (SS : List Sto) (H : AHeap) (cs : List AV), H[q]? = some (some (.var cs)) → ∃ cs', (appS L SS H)[q]? = some (some (.var cs'))
  | [], H, cs, h => ⟨cs, h⟩
  | s :: r, H, cs, h => by
    simp only [appS]
    split
    · by_cases e : q = s.k
      · subst e; exact appS_var r _ _ (setB_eq h)
      · exact appS_var r _ cs (by rw [setB_ne e]; exact h)
    · exact appS_var r H cs h
theorem appS_hole {L : Nat → Bool} {q : Nat} : ∀ (SS : List Sto) (H : AHeap), H[q]? = some none → (appS L SS H)[q]? = some none
  | [], H, h => h
  | s :: r, H, h => by
    simp only [appS]
    split
    · by_cases e : q = s.k
      · subst e; rw [setB_no (by simp [h])]; exact appS_hole r H h
      · exact appS_hole r _ (by rw [setB_ne e]; exact h)
    · exact appS_hole r H h

/-! ### heaps of which less is told -/
def WkH (H H' : AHeap) : Prop := ∀ (k : Nat) (B' : Blk), H'[k]? = some (some B') → ∃ B, H[k]? = some (some B) ∧ (B = B' ∨ ∃ cs cs', B = .var cs ∧ B' = .var cs' ∧ WeakL cs cs')
theorem weakL_app {a b c d : List AV} (h : WeakL a b) (h' : WeakL c d) : WeakL (a ++ c) (b ++ d) := by
  induction h with
  | nil => exact h'
  | cons h _ ih => exact .cons h ih
theorem weakL_take {a b : List AV} (h : WeakL a b) (n : Nat) : WeakL (a.take n) (b.take n) := by
  induction h generalizing n with
  | nil => simp; exact .nil
  | cons h _ ih => cases n with
    | zero => exact .nil
    | succ n => exact .cons h (ih n)
theorem weakL_drop {a b : List AV} (h : WeakL a b) (n : Nat) : WeakL (a.drop n) (b.drop n) := by
  induction h generalizing n with
  | nil => simp; exact .nil
  | cons h hs ih => cases n with
    | zero => exact .cons h hs
    | succ n => exact ih n
theorem weakL_anys : ∀ vs : List AV, WeakL vs (vs.map fun _ => .any)
  | [] => .nil
  | v :: vs => .cons (Weak.any v) (weakL_anys vs)
theorem weakL_anys' : ∀ (cs : List AV) (vs : List AV), cs.length = vs.length → WeakL cs (vs.map fun _ => .any)
  | [], [], _ => .nil
  | c :: cs, v :: vs, h => .cons (Weak.any c) (weakL_anys' cs vs (by simpa using h))
  | [], _ :: _, h => by simp at h
  | _ :: _, [], h => by simp at h
theorem weakL_splice {cs cs' : List AV} (h : WeakL cs cs') (off : Nat) (vs : List AV) : WeakL (splice off vs cs) (splice off (vs.map fun _ => .any) cs') := by
  unfold splice
  rw [List.length_map]
  exact weakL_app (weakL_app (weakL_take h off) (weakL_anys vs)) (weakL_drop h _)
theorem weakL_mask {cs cs' : List AV} (h : WeakL cs cs') (off : Nat) (vs : List AV) (hf : off + vs.length ≤ cs.length) : WeakL cs (splice off (vs.map fun _ => .any) cs') := by
  have : cs = splice off ((cs.drop off).take vs.length) cs := by
    unfold splice
    rw [List.length_take, List.length_drop, Nat.min_eq_left (by omega), List.append_assoc]
    have h2 : (cs.drop off).take vs.length ++ cs.drop (off + vs.length) = cs.drop off := by
      rw [← List.drop_drop, List.take_append_drop]
    rw [h2, List.take_append_drop]
  rw [this]
  unfold splice
  rw [List.length_map, List.length_take, List.length_drop, Nat.min_eq_left (by omega)]
  exact weakL_app (weakL_app (weakL_take h off) (weakL_anys' _ vs (by simp; omega))) (weakL_drop h _)
theorem wkH_both {H H' : AHeap} (h : WkH H H') (k off : Nat) (vs : List AV) : WkH (setB H k off vs) (setB H' k off (vs.map fun _ => .any)) := fun j B' hj => by
  by_cases e : j = k
  · subst e
    cases hb : H'[j]? with
    | none => rw [setB_no (by simp [hb])] at hj; rw [hb] at hj; cases hj
    | some x =>
      cases x with
      | none => rw [setB_no (by simp [hb])] at hj; rw [hb] at hj; cases hj
      | some B =>
        obtain ⟨B0, h1, h2⟩ := h j B hb
        cases B with
        | row a b c =>
          rw [setB_no (by simp [hb])] at hj; rw [hb] at hj; cases hj
          rcases h2 with rfl | ⟨_, _, _, h3, _⟩
          · exact ⟨_, by rw [setB_no (by simp [h1])]; exact h1, .inl rfl⟩
          · cases h3
        | var cs' =>
          rw [setB_eq hb] at hj; cases hj
          rcases h2 with rfl | ⟨cs, cs2, rfl, h3, h4⟩
          · exact ⟨_, setB_eq h1, .inr ⟨_, _, rfl, rfl, weakL_splice (WeakL.refl _) off vs⟩⟩
          · cases h3
            exact ⟨_, setB_eq h1, .inr ⟨_, _, rfl, rfl, weakL_splice h4 off vs⟩⟩
  · rw [setB_ne e] at hj
    obtain ⟨B, h1, h2⟩ := h j B' hj
    exact ⟨B, by rw [setB_ne e]; exact h1, h2⟩
theorem wkH_mask {H H' : AHeap} (h : WkH H H') (s : Sto) (hf : Fits H s) : WkH H (setB H' s.k s.off (s.vs.map fun _ => .any)) := fun j B' hj => by
  by_cases e : j = s.k
  · subst e
    cases hb : H'[s.k]? with
    | none => rw [setB_no (by simp [hb])] at hj; rw [hb] at hj; cases hj
    | some x =>
      cases x with
      | none => rw [setB_no (by simp [hb])] at hj; rw [hb] at hj; cases hj
      | some B =>
        obtain ⟨B0, h1, h2⟩ := h s.k B hb
        cases B with
        | row a b c =>
          rw [setB_no (by simp [hb])] at hj; rw [hb] at hj; cases hj
          exact ⟨B0, h1, h2⟩
        | var cs' =>
          rw [setB_eq hb] at hj; cases hj
          rcases h2 with rfl | ⟨cs, cs2, rfl, h3, h4⟩
          · exact ⟨_, h1, .inr ⟨_, _, rfl, rfl, weakL_mask (WeakL.refl _) _ _ (hf _ h1)⟩⟩
          · cases h3
            exact ⟨_, h1, .inr ⟨_, _, rfl, rfl, weakL_mask h4 _ _ (hf _ h1)⟩⟩
  · rw [setB_ne e] at hj; exact h j B' hj
theorem wkH_app (L : Nat → Bool) : ∀ (SS : List Sto) (H H' : AHeap), (∀ s ∈ SS, Fits H s) → WkH H H' → WkH (appS L SS H) (mskS SS H')
  | [], _, _, _, h => h
  | s :: r, H, H', hf, h => by
    simp only [appS, mskS]
    split
    · exact wkH_app L r _ _ (fun q hq => fits_setB (hf q (by simp [hq])) (hf s (by simp))) (wkH_both h _ _ _)
    · exact wkH_app L r _ _ (fun q hq => hf q (by simp [hq])) (wkH_mask h s (hf s (by simp)))
theorem hlive_wk {w : World} {S : Nat → Prop} {φ : Phi} {H H' : AHeap} (h : HLive w S φ H) (hw : WkH H H') : HLive w S φ H' := fun k B' hk => by
  obtain ⟨B, h1, h2⟩ := hw k B' hk
  rcases h2 with rfl | ⟨cs, cs', rfl, rfl, h3⟩
  · exact h k B h1
  · obtain ⟨_, g, h4, h5⟩ := h k _ h1
    refine ⟨trivial, g, h4, ?_⟩
    cases g with
    | none => obtain ⟨_, _, h⟩ := h5; cases h
    | some g =>
      obtain ⟨h6, us, ty, h7, h8, h9, h10⟩ := h5
      have hl := h3.length
      refine ⟨h6, us, ty, h7, by simp only [Blk.cells] at h8 ⊢; omega, by simp only [Blk.full] at h9 ⊢; omega, fun j x hj => ?_⟩
      obtain ⟨y, hy, hxy⟩ := h3.get j x hj
      exact hxy _ _ _ _ (h10 j y hy)
theorem mskS_length : ∀ (SS : List Sto) (H : AHeap), (mskS SS H).length = H.length
  | [], H => rfl
  | s :: r, H => by simp only [mskS]; rw [mskS_length r, setB_length]

/-- A store that turns cells of a variable, whatever else there is. -/
def AStoA (P : Program) (o : Oper) (ρ : Operand → AV) (s : Sto) : Prop :=
  ∀ w S φ (a : Act) (next : Act → World → Prop) (Q : Exit → Act → World → Prop) (H : AHeap) (cs : List AV), HRel w S φ H → H[s.k]? = some (some (.var cs)) → s.off + s.vs.length ≤ cs.length → (∀ y ∈ o.op.operands, Rep w S φ (a.eval y) (ρ y)) →
    (∀ w', HRel w' S φ (setB H s.k s.off s.vs) → Ext w S φ w' S φ → next (a.put o.dst Go.undef) w') → o.wp P a w next Q

theorem awp_region_sto {P : Program} {B : Base} {Q : AExit → ASt → Prop} {st : ASt} {id : Nat} {l : List Oper} (n : Nat) (SS : List Sto) (hm : P.follows .mixedOrders = true) (hchk : drawOk l n = true) {R : List HRes} {te : List AV} {lh : List Oper} (hlen : lh.length = n)
    (hget : ∀ (i : Nat) (o : Oper), i < n → l.toArray[i]? = some o → (∀ s ∈ SS, s.i ≠ i) → lh[i]? = some o) (hdst : ∀ (i : Nat) (o o' : Oper), i < n → l.toArray[i]? = some o → lh[i]? = some o' → o'.dst = o.dst)
    (hpw : SS.Pairwise (fun a b => Dis a b ∧ a.i ≠ b.i)) (hfit : ∀ (L : Nat → Bool), ∀ s ∈ SS, Fits (st.heap ++ slotsL L 0 R) s)
    (hSS : ∀ s ∈ SS, s.i < n ∧ ∃ os, l.toArray[s.i]? = some os ∧ os.dst = none ∧ (∃ x0, R[s.i]? = some (x0, none)) ∧ awantedL l.toArray te os = some true ∧ AStoA P os (evalL te) s ∧
      ((∃ cs, st.heap[s.k]? = some (some (.var cs))) ∨ ∃ j x cs, j < s.i ∧ ((Region.before l.toArray).getD s.i 0).testBit j = true ∧ R[j]? = some (x, some (.var cs)) ∧ slotOf st.heap.length R j = s.k))
    (H : Heads P l.toArray (mskS SS st.heap) lh st.tmps st.heap.length R te) (tail : AOps P B l.toArray Q (l.drop n) ⟨te, appS (fun _ => true) SS (st.heap ++ newsL R), st.defs⟩) : AWp P B (.region id l.toArray true) Q st := by
  intro S φ a w hr
  refine wp_region_any hm ?_
  obtain ⟨c1, c2, c3, c4, c5, c6⟩ := drawOk_spec hchk
  obtain ⟨s1, s2, s3, s4⟩ := heads_spec H
  have hget' : ∀ (i : Nat) (o : Oper), lh[i]? = some o → ∃ o', i < n ∧ l.toArray[i]? = some o' ∧ o.dst = o'.dst := fun i o h => by
    have hi : i < n := hlen ▸ (List.getElem?_eq_some_iff.1 h).1
    have hil : i < l.length := by omega
    exact ⟨l[i], hi, by simp [hil], hdst i _ o hi (by simp [hil]) h⟩
  obtain ⟨HF, hHF⟩ : ∃ HF : (Nat → Bool) → AHeap, HF = fun L => appS L SS (st.heap ++ slotsL L 0 R) := ⟨_, rfl⟩
  have hfl : ∀ L, (HF L).length = (st.heap ++ slotsL L 0 R).length := fun L => by rw [hHF]; exact appS_length ..
  have hmsk : ∀ {w : World} {S : Nat → Prop} {φ : Phi} (L : Nat → Bool), HLive w S φ (HF L) → HLive w S φ (mskS SS st.heap) := fun L h => by
    refine hlive_wk h ?_
    rw [hHF]
    refine wkH_app L SS _ _ (hfit L) fun k B' hk => ⟨B', ?_, .inl rfl⟩
    rw [List.getElem?_append_left (List.getElem?_eq_some_iff.1 hk).1]; exact hk
  -- what the last list tells of a head's place
  have place : ∀ (i : Nat) (o : Oper) (d : Tmp), lh[i]? = some o → o.dst = some d → d < st.tmps.length → ∃ r, R[i]? = some r ∧ te[d]? = some r.1 := fun i o d hi hd hlt => by
    obtain ⟨r, tsi, k1, _, _, k4⟩ := s4 i o hi
    refine ⟨r, k1, k4 d hd hlt (fun j o' hij hj hd' => ?_)⟩
    obtain ⟨oi, hi', ho', hdi⟩ := hget' i o hi
    obtain ⟨oj, hj', hjo, hdj⟩ := hget' j o' hj
    exact (c4 i j oi d hi' hj' ho' (by rw [hjo]; simpa [hdj] using hd')).2 (by omega) (hdi ▸ hd)
  -- an operation of the head, told by the last list
  have headTe : ∀ (i : Nat) (o : Oper), i < n → l.toArray[i]? = some o → lh[i]? = some o → ∃ r, R[i]? = some r ∧ HeadAt P l.toArray (mskS SS st.heap) o te (slotOf st.heap.length R i) r := fun i o hi' ho' hi => by
    obtain ⟨r, tsi, k1, k2, k3, _⟩ := s4 i o hi
    refine ⟨r, k1, headAt_congr (fun t ht => (k3 t (fun j o' hij hj hd => ?_)).symm) k2⟩
    obtain ⟨oj, hj', hjo, hdj⟩ := hget' j o' hj
    have := (c4 i j o t hi' hj' ho' (by rw [hjo]; simpa [hdj] using hd)).1 (by simpa using ht)
    omega
  -- all of the head is listed: the tail
  have fin : ∀ (listed : Array Bool) (a : Act) (w : World) (S : Nat → Prop) (φ : Phi), listed.size = l.length → (∀ j, n ≤ j → listed.getD j false = false) → (∀ j, j < n → listed.getD j false = true) →
      Ext B.w B.S B.φ w S φ → DRel w S φ a.defers st.defs → HRel w S φ (HF (fun j => listed.getD j false)) → a.tmps.size = st.tmps.length →
      (∀ (d : Tmp) (x : AV), (∀ (j : Nat) (o : Oper), lh[j]? = some o → o.dst ≠ some d) → st.tmps[d]? = some x → Rep w S φ (a.tmps.getD d Go.undef) x) →
      (∀ (i : Nat) (o : Oper) (r : HRes) (d : Tmp), lh[i]? = some o → R[i]? = some r → listed.getD i false = true → o.dst = some d → d < st.tmps.length → Rep w S φ (a.tmps.getD d Go.undef) r.1) →
      wpAny P .any l.toArray (Lift B Q) (l.length - n) listed a w := fun listed a w S φ hsz htl hall i1 i2 i3 i5 i6 i7 => by
    have hla : listed = Array.replicate n true ++ Array.replicate (l.length - n) false := by
      apply Array.ext
      · simp; omega
      · intro j hj1 hj2
        rcases Nat.lt_or_ge j n with hj | hj
        · have := hall j hj
          rw [Array.getElem_append_left (by simpa using hj)]
          simp [Array.getD, hj1] at this
          simp [this]
        · have := htl j hj
          rw [Array.getElem_append_right (by simpa using hj)]
          simp [Array.getD, hj1] at this
          simp [this]
    have hrel : Rel B S φ ⟨te, appS (fun _ => true) SS (st.heap ++ newsL R), st.defs⟩ a w := by
      refine ⟨?_, ⟨i5.trans s2.symm, fun d x hx => ?_⟩, i2, i1⟩
      · rw [← slotsL_all (fun j => listed.getD j false) R (fun j hj => hall j (by rw [s1, hlen] at hj; exact hj)), ← appS_congr (L := fun j => listed.getD j false) SS _ (fun s hs => hall s.i (hSS s hs).1)]
        rw [hHF] at i3
        exact i3
      · by_cases hd : ∃ (i : Nat) (o : Oper), lh[i]? = some o ∧ o.dst = some d
        · obtain ⟨i, o, hi, hdst⟩ := hd
          have hlt : d < st.tmps.length := by rw [← s2]; exact (List.getElem?_eq_some_iff.1 hx).1
          obtain ⟨r, k1, k2⟩ := place i o d hi hdst hlt
          rw [k2] at hx; cases hx
          exact i7 i o r d hi k1 (hall i (hlen ▸ (List.getElem?_eq_some_iff.1 hi).1)) hdst hlt
        · have hno : ∀ (j : Nat) (o : Oper), lh[j]? = some o → o.dst ≠ some d := fun j o hj he => hd ⟨j, o, hj, he⟩
          rw [s3 d hno] at hx
          exact i6 d x hno hx
    have hdl : (l.drop n).length = l.length - n := by simp
    have := wpAny_of_seq (P := P) (md := .any) (ops := l.toArray) (Q' := Lift B Q) (l.drop n) n listed a w (fun j => by simp [List.getElem?_drop]) (by rw [hdl, hla]; exact c6) (tail S φ a w hrel)
    rwa [hdl] at this
  have main : ∀ (m : Nat) (listed : Array Bool) (a : Act) (w : World), listed.size = l.length → Down l.toArray listed → (∀ j, n ≤ j → listed.getD j false = false) → ((List.range n).filter (fun j => !listed.getD j false)).length ≤ m →
      (∃ S φ, Ext B.w B.S B.φ w S φ ∧ DRel w S φ a.defers st.defs ∧ HRel w S φ (HF (fun j => listed.getD j false)) ∧ (∀ i x Bn, R[i]? = some (x, some Bn) → listed.getD i false = false → φ (slotOf st.heap.length R i) = none) ∧
        a.tmps.size = st.tmps.length ∧ (∀ (d : Tmp) (x : AV), (∀ (j : Nat) (o : Oper), lh[j]? = some o → o.dst ≠ some d) → st.tmps[d]? = some x → Rep w S φ (a.tmps.getD d Go.undef) x) ∧
        (∀ (i : Nat) (o : Oper) (r : HRes) (d : Tmp), lh[i]? = some o → R[i]? = some r → listed.getD i false = true → o.dst = some d → d < st.tmps.length → Rep w S φ (a.tmps.getD d Go.undef) r.1)) →
      wpAny P .any l.toArray (Lift B Q) (m + (l.length - n)) listed a w := by
    intro m
    induction m with
    | zero =>
      intro listed a w hsz hdown htl hcnt ⟨S, φ, i1, i2, i3, i4, i5, i6, i7⟩
      have hall : ∀ j, j < n → listed.getD j false = true := fun j hj => by
        cases hb : listed.getD j false with
        | true => rfl
        | false =>
          have : j ∈ (List.range n).filter (fun j => !listed.getD j false) := List.mem_filter.2 ⟨List.mem_range.2 hj, by simp only [hb]; rfl⟩
          have := List.length_pos_of_mem this
          omega
      rw [Nat.zero_add]
      exact fin listed a w S φ hsz htl hall i1 i2 i3 i5 i6 i7
    | succ m ih =>
      intro listed a w hsz hdown htl hcnt ⟨S, φ, i1, i2, i3, i4, i5, i6, i7⟩
      by_cases hall : ∀ j, j < n → listed.getD j false = true
      · exact wpAny_add (fin listed a w S φ hsz htl hall i1 i2 i3 i5 i6 i7) (m + 1)
      rw [Nat.add_right_comm]
      have toFalse : ∀ j, j < l.length → listed.getD j true = listed.getD j false := fun j hj => by simp [Array.getD, hsz, hj]
      refine ⟨fun hready => absurd ?_ hall, fun i hi => ?_⟩
      · intro j
        induction j using Nat.strongRecOn with
        | _ j ihj =>
          intro hj
          have hjl : j < l.length := by omega
          cases hb : listed.getD j false with
          | true => rfl
          | false =>
            have : j ∈ Region.ready .any l.toArray listed := mem_ready.2 ⟨by rw [toFalse j hjl]; exact hb, l[j], by simp [hjl], fun e he hbe => ihj e.on (c2 j _ (by simp [hjl]) e he hbe) (by have := c2 j l[j] (by simp [hjl]) e he hbe; omega)⟩
            rw [hready] at this; cases this
      · obtain ⟨hun, o, ho, hpre⟩ := mem_ready.1 hi
        have hil : i < l.length := by simpa using (Array.getElem?_eq_some_iff.1 ho).1
        have hbefore := listed_of_before c3 hdown i o ho hpre
        have hin : i < n := by
          rcases Nat.lt_or_ge i n with h | h
          · exact h
          · exact absurd (fun j hj => hbefore j (by omega) (c5 i h hil j (by omega))) hall
        have hunf : listed.getD i false = false := by rw [← toFalse i hil]; exact hun
        -- the slots that it looks at
        have slot : ∀ t ∈ looks l.toArray o, ∀ x, te[t]? = some x → Rep w S φ (a.tmps.getD t Go.undef) x := fun t ht x hx => by
          by_cases hd : ∃ (j : Nat) (o' : Oper), lh[j]? = some o' ∧ o'.dst = some t
          · obtain ⟨j, o', hj, hdst⟩ := hd
            obtain ⟨oj, hjn, hjo, hdj⟩ := hget' j o' hj
            have hlt : t < st.tmps.length := by rw [← s2]; exact (List.getElem?_eq_some_iff.1 hx).1
            obtain ⟨r', k1, k2⟩ := place j o' t hj hdst hlt
            rw [k2] at hx; cases hx
            obtain ⟨g1, g2⟩ := (c4 i j o t hin hjn ho (by rw [hjo]; simpa [hdj] using hdst)).1 (by simpa using ht)
            exact i7 j o' r' t hj k1 (hbefore j g1 g2) hdst hlt
          · have hno : ∀ (j : Nat) (o : Oper), lh[j]? = some o → o.dst ≠ some t := fun j o hj he => hd ⟨j, o, hj, he⟩
            rw [s3 t hno] at hx
            exact i6 t x hno hx
        have opnd : ∀ y ∈ o.op.operands, Rep w S φ (a.eval y) (evalL te y) := fun y hy => by
          cases y with
          | tmp t =>
            simp only [evalL, Act.eval]
            cases hx : te[t]? with
            | none => simp [List.getD_eq_getElem?_getD, hx]; exact .any
            | some x =>
              have := slot t (by
                simp only [looks, List.mem_append, List.mem_filterMap]
                exact .inl ⟨.tmp t, by simpa using hy, rfl⟩) x hx
              simpa [List.getD_eq_getElem?_getD, hx] using this
          | const v => exact rep_ofConst ..
          | global g => exact .any
          | func f => exact .fn rfl rfl (fun j x h => by simp at h) (fun j x h => by simp at h)
        have hsize' : (listed.setIfInBounds i true).size = l.length := by simpa using hsz
        have hset : ∀ j, (listed.setIfInBounds i true).getD j false = if j = i then true else listed.getD j false := fun j => by
          by_cases hji : j = i
          · subst hji; simp [Array.getD, hsz, hil]
          · rw [if_neg hji]
            have : i ≠ j := fun e => hji e.symm
            simp [Array.getD_eq_getD_getElem?, Array.getElem?_setIfInBounds, this]
        have hfun : (fun j => (listed.setIfInBounds i true).getD j false) = fun j => if j = 0 + i then true else listed.getD j false := funext fun j => by rw [hset, Nat.zero_add]
        have hdown' : Down l.toArray (listed.setIfInBounds i true) := fun j oj hoj hl e he hb => by
          rw [hset] at hl ⊢
          split
          · rfl
          · by_cases hji : j = i
            · subst hji; rw [ho] at hoj; cases hoj; exact hpre e he hb
            · rw [if_neg hji] at hl; exact hdown j oj hoj hl e he hb
        have htl' : ∀ j, n ≤ j → (listed.setIfInBounds i true).getD j false = false := fun j hj => by rw [hset, if_neg (by omega)]; exact htl j hj
        have hcnt' : ((List.range n).filter (fun j => !(listed.setIfInBounds i true).getD j false)).length ≤ m := by
          have := filter_less (fun j => !listed.getD j false) (fun j => !(listed.setIfInBounds i true).getD j false) (List.range n) i (fun y _ hy => by
            simp only [hset] at hy
            split at hy
            · simp at hy
            · exact hy) (List.mem_range.2 hin) (by simp only [hunf]; rfl) (by simp only [hset, if_pos]; rfl)
          omega
        -- what is left behind it
        have hdI : ∀ (o' : Oper), lh[i]? = some o' → o'.dst = o.dst := fun o' h => hdst i o o' hin ho h
        obtain ⟨oi, hoi⟩ : ∃ oi, lh[i]? = some oi := ⟨_, List.getElem?_eq_getElem (by omega)⟩
        have done : ∀ (v : Value) (w' : World) (S' : Nat → Prop) (φ' : Phi), HRel w' S' φ' (HF (fun j => (listed.setIfInBounds i true).getD j false)) → Ext w S φ w' S' φ' →
            (∀ i' x Bn, R[i']? = some (x, some Bn) → (listed.setIfInBounds i true).getD i' false = false → φ' (slotOf st.heap.length R i') = none) → (∀ d r, o.dst = some d → R[i]? = some r → Rep w' S' φ' v r.1) →
            wpAny P .any l.toArray (Lift B Q) (m + (l.length - n)) (listed.setIfInBounds i true) (a.put o.dst v) w' := fun v w' S' φ' g1 g2 g3 g4 => by
          refine ih _ _ _ hsize' hdown' htl' hcnt' ⟨S', φ', i1.trans g2, ?_, g1, g3, (put_size ..).trans i5, fun d x hno hx => ?_, fun j o' r' d hj hrj hl hd hlt => ?_⟩
          · have : (a.put o.dst v).defers = a.defers := by cases o.dst <;> rfl
            rw [this]; exact i2.step g2.step
          · rw [put_get (hdI oi hoi ▸ hno i oi hoi)]; exact (i6 d x hno hx).step g2.step
          · by_cases hji : j = i
            · subst hji
              have hod := hdI o' hj
              rw [hd] at hod
              rw [← hod, put_same (by rw [i5]; exact hlt)]
              exact g4 d r' hod.symm hrj
            · rw [hset, if_neg hji] at hl
              obtain ⟨oj, hjn, hjo, hdj⟩ := hget' j o' hj
              have := (c4 i j o d hin hjn ho (by rw [hjo]; simpa [hdj] using hd)).2 hji
              rw [put_get this]
              exact (i7 j o' r' d hj hrj hl hd hlt).step g2.step
        unfold wpOp
        simp only [ho]
        have hLi : (fun j => (listed.setIfInBounds i true).getD j false) = fun j => if j = i then true else listed.getD j false := funext fun j => hset j
        have hls : ∀ (s : Sto), s ∈ SS → listed.getD s.i false = true → ∃ os, l.toArray[s.i]? = some os := fun s hs _ => let ⟨_, os, h, _⟩ := hSS s hs; ⟨os, h⟩
        by_cases his : ∃ s ∈ SS, s.i = i
        · obtain ⟨s, hs, his⟩ := his
          obtain ⟨hsn, os, hos, hsd, ⟨x0, hR⟩, hw, hst, hblk⟩ := hSS s hs
          rw [his] at hos hR
          have hoo : o = os := by rw [ho] at hos; cases hos; rfl
          subst hoo
          rw [if_pos (wanted_of' (i5.trans s2.symm) slot hw)]
          have hvar : ∃ cs, (HF (fun j => listed.getD j false))[s.k]? = some (some (.var cs)) := by
            rw [hHF]
            rcases hblk with ⟨cs, hcs⟩ | ⟨j, x, cs, hj, hjb, hRj, hsl⟩
            · exact appS_var SS _ cs (by rw [List.getElem?_append_left (List.getElem?_eq_some_iff.1 hcs).1]; exact hcs)
            · have hlj : listed.getD j false = true := hbefore j (by omega) (by rw [his] at hjb; exact hjb)
              obtain ⟨_, q2, _, q4⟩ := slotsL_set (fun j => listed.getD j false) R 0 st.heap.length j x (.var cs) hRj
              have hsame : (fun q => if q = 0 + j then true else listed.getD q false) = fun q => listed.getD q false := funext fun q => by
                split
                · rename_i e; rw [e, Nat.zero_add, hlj]
                · rfl
              rw [hsame, hsl] at q2
              have hge := slotOf_ge R st.heap.length j
              rw [hsl] at hge
              exact appS_var SS _ cs (by rw [List.getElem?_append_right hge]; exact q2)
          obtain ⟨cs, hcs⟩ := hvar
          have hfs : s.off + s.vs.length ≤ cs.length := by
            rw [hHF] at hcs
            exact fits_app _ SS _ (hfit _) (hfit _ s hs) cs hcs
          refine .inl (hst w S φ a _ _ _ cs i3 hcs hfs opnd fun w' h1 h2 => ?_)
          refine done Go.undef w' S φ ?_ h2 (fun i' x' Bn hi' hl => ?_) (fun d r hd => by rw [hsd] at hd; cases hd)
          · rw [hLi]
            rw [hHF] at h1 ⊢
            have hz := slotsL_none (fun j => listed.getD j false) R 0 i x0 hR
            rw [Nat.zero_add] at hz
            simp only [hz]
            rw [← his, appS_add SS _ (hfit _) hpw hs (by rw [his]; exact hunf)]
            exact h1
          · rw [hset] at hl
            split at hl
            · cases hl
            · exact i4 i' x' Bn hi' hl
        have hno : ∀ s ∈ SS, s.i ≠ i := fun s hs e => his ⟨s, hs, e⟩
        obtain ⟨r, hr1, hr2⟩ := headTe i o hin ho (hget i o hin ho hno)
        have hcong : ∀ H, appS (fun j => if j = i then true else listed.getD j false) SS H = appS (fun j => listed.getD j false) SS H := fun H => appS_congr SS H fun s hs => if_neg (hno s hs)
        have hquiet : ∀ x, R[i]? = some (x, none) → HF (fun j => (listed.setIfInBounds i true).getD j false) = HF (fun j => listed.getD j false) := fun x hx => by
          rw [hLi, hHF]
          have hz := slotsL_none (fun j => listed.getD j false) R 0 i x hx
          rw [Nat.zero_add] at hz
          simp only [hz, hcong]
        rcases hr2 with ⟨hw, hh⟩ | ⟨hw, hr0⟩
        · rw [if_pos (wanted_of' (i5.trans s2.symm) slot hw)]
          refine .inl (hh w S φ a _ _ (hmsk _ i3.live) i3.bound opnd (fun k Bn hk => ?_) fun v w' S' φ' h1 h2 h3 h4 h5 h6 => ?_)
          · obtain ⟨x, nb⟩ := r
            cases nb with
            | none => simp at hk
            | some Bn' =>
              simp at hk
              rw [← hk.1]
              exact i4 i x Bn' hr1 hunf
          · obtain ⟨x, nb⟩ := r
            cases nb with
            | none =>
              have e : φ' = φ := h5
              subst e
              obtain ⟨g1, g2⟩ := hrel_quiet i3 h1 h2 h3 h4
              refine done v w' S' φ' ?_ g2 (fun i' x' Bn hi' hl => ?_) (fun d r _ hr => by rw [hr1] at hr; cases hr; exact h6)
              · rw [hquiet x hr1]; exact g1
              · rw [hset] at hl
                split at hl
                · cases hl
                · exact i4 i' x' Bn hi' hl
            | some Bn =>
              have h5' : NewRel (some (slotOf st.heap.length R i, Bn)) w w' S' φ φ' := h5
              obtain ⟨q1, q2, q3, q4⟩ := slotsL_set (fun j => listed.getD j false) R 0 st.heap.length i x Bn hr1
              have hge := slotOf_ge R st.heap.length i
              have hslot : HF (fun j => (listed.setIfInBounds i true).getD j false) = (HF (fun j => listed.getD j false)).set (slotOf st.heap.length R i) (some Bn) := by
                rw [hLi, hHF]
                simp only [hcong]
                have hnl : ∀ s ∈ SS, listed.getD s.i false = true → s.k ≠ slotOf st.heap.length R i := fun s hs hl e => by
                  obtain ⟨hsn, os, hos, _, _, _, _, hblk⟩ := hSS s hs
                  rcases hblk with ⟨cs, hcs⟩ | ⟨j, x', cs, hj, hjb, hRj, hsl⟩
                  · have := (List.getElem?_eq_some_iff.1 hcs).1; omega
                  · have hji : j = i := Classical.byContradiction fun hne => slotOf_inj hr1 hRj hne (hsl.trans e)
                    subst hji
                    have hlj := listed_of_before c3 hdown s.i os hos (fun e he hb => hdown s.i os hos hl e he hb) j hj hjb
                    rw [hunf] at hlj; cases hlj
                rw [← appS_slot SS _ hnl]
                congr 1
                rw [List.set_append_right _ _ hge]
                congr 1
                apply List.ext_getElem?
                intro q
                have hl0 := slotsL_length (fun j => if j = i then true else listed.getD j false) (fun j => listed.getD j false) R 0 0
                rw [Nat.zero_add] at q2 q4
                by_cases hq : q = slotOf st.heap.length R i - st.heap.length
                · subst hq
                  rw [q2, List.getElem?_set_self (by rw [← hl0]; exact (List.getElem?_eq_some_iff.1 q2).1)]
                · rw [q4 q (by omega), List.getElem?_set_ne (fun e => hq e.symm)]
              have hhole : slotOf st.heap.length R i < (HF (fun j => listed.getD j false)).length := by
                rw [hfl, List.length_append]; omega
              obtain ⟨g1, g2⟩ := hrel_slot (h' := (HF (fun j => listed.getD j false)).set (slotOf st.heap.length R i) (some Bn)) i3 h1 h2 h3 h4 h5' (i4 i x Bn hr1 hunf)
                (by simpa using hhole) (by simp) (List.getElem?_set_self hhole) (fun j hj hjl => .inl (List.getElem?_set_ne (fun e => hj e.symm)))
              refine done v w' S' φ' (by rw [hslot]; exact g1) g2 (fun i' x' Bn' hi' hl => ?_) (fun d r _ hr => by rw [hr1] at hr; cases hr; exact h6)
              obtain ⟨_, g, rfl, _⟩ := h5'
              rw [hset] at hl
              split at hl
              · cases hl
              · rename_i hne
                simp only [updPhi, slotOf_inj hr1 hi' hne, if_false]
                exact i4 i' x' Bn' hi' hl
        · subst hr0
          rw [if_neg (by simp [wanted_of' (i5.trans s2.symm) slot hw])]
          refine done Go.undef w S φ ?_ (.refl _ _ _) (fun i' x' Bn hi' hl => ?_) (fun d r _ hr => by rw [hr1] at hr; cases hr; exact .undef)
          · rw [hquiet .undef hr1]; exact i3
          · rw [hset] at hl
            split at hl
            · cases hl
            · exact i4 i' x' Bn hi' hl
  have hrd := hrel_drew hr.heap
  have := main n (Array.replicate l.length false) a w.drew (by simp) (fun i o _ h => by
      rw [getD_replicate_false] at h; cases h) (fun j _ => getD_replicate_false _ _) (by
      refine Nat.le_trans (List.length_filter_le _ _) (by simp)) ⟨S, φ, hr.ext.trans hrd.2, hr.defs.step hrd.2.step, ?_, fun i x Bn hi _ => ?_, hr.tmps.1, fun d x _ hx => (hr.tmps.2 d x hx).step hrd.2.step, fun i o r d _ _ hl => by rw [getD_replicate_false] at hl; cases hl⟩
  · rw [show n + (l.length - n) = l.toArray.size by simp; omega] at this
    simpa using this
  · rw [hHF]
    have hoff : ∀ (L : Nat → Bool), (∀ j, L j = false) → ∀ (SS : List Sto) (H : AHeap), appS L SS H = H := by
      intro L hL SS
      induction SS with
      | nil => intro H; rfl
      | cons s r ih => intro H; simp only [appS, hL]; exact ih H
    show HRel w.drew S φ (appS (fun j => (Array.replicate l.length false).getD j false) SS (st.heap ++ slotsL (fun j => (Array.replicate l.length false).getD j false) 0 R))
    rw [hoff _ (fun j => getD_replicate_false _ _)]
    exact hrel_holes hrd.1 (slotsL_false _ R 0 (fun j => getD_replicate_false _ _))
  · exact hr.heap.dom _ (slotOf_ge _ _ _)



/-! ### the rule, as walks use it -/
abbrev Shp := Nat × Nat × Nat × Nat
def Sto.shp (s : Sto) : Shp := (s.i, s.k, s.off, s.vs.length)
def mskH : List Shp → AHeap → AHeap
  | [], H => H
  | s :: r, H => mskH r (setB H s.2.1 s.2.2.1 (List.replicate s.2.2.2 .any))
theorem mskH_eq : ∀ (SS : List Sto) (H : AHeap), mskS SS H = mskH (SS.map Sto.shp) H
  | [], H => rfl
  | s :: r, H => by
    simp only [mskS, mskH, List.map_cons, Sto.shp]
    rw [mskH_eq r, List.map_const']
def disB (a b : Shp) : Bool := (!(Nat.beq a.2.1 b.2.1) || (Nat.ble (a.2.2.1 + a.2.2.2) b.2.2.1 || Nat.ble (b.2.2.1 + b.2.2.2) a.2.2.1)) && !(Nat.beq a.1 b.1)
def shB : List Shp → Bool
  | [] => true
  | a :: r => r.all (disB a) && shB r
theorem shB_pw : ∀ (SS : List Sto), shB (SS.map Sto.shp) = true → SS.Pairwise (fun a b => Dis a b ∧ a.i ≠ b.i)
  | [], _ => .nil
  | s :: r, h => by
    simp only [List.map_cons, shB, Bool.and_eq_true, List.all_eq_true, List.mem_map] at h
    refine .cons (fun t ht => ?_) (shB_pw r h.2)
    have := h.1 t.shp ⟨t, ht, rfl⟩
    simp only [disB, Sto.shp, Bool.and_eq_true, Bool.or_eq_true, Bool.not_eq_true', Nat.ble_eq] at this
    obtain ⟨h1, h2⟩ := this
    refine ⟨?_, fun e => by rw [e, Nat.beq_refl] at h2; cases h2⟩
    rcases h1 with h1 | h1
    · exact .inl fun e => by rw [e, Nat.beq_refl] at h1; cases h1
    · exact .inr h1
def dumbL (is : List Nat) : Nat → List Oper → List Oper
  | _, [] => []
  | i, o :: os => (match is.any (Nat.beq i) with | true => dumb o | false => o) :: dumbL is (i + 1) os
theorem dumbL_get (is : List Nat) : ∀ (os : List Oper) (j i : Nat), (dumbL is j os)[i]? = (os[i]?).map fun o => match is.any (Nat.beq (j + i)) with | true => dumb o | false => o
  | [], j, i => by simp [dumbL]
  | o :: os, j, 0 => by simp [dumbL]
  | o :: os, j, i + 1 => by
    simp only [dumbL, List.getElem?_cons_succ, dumbL_get is os (j + 1) i]
    rw [show j + 1 + i = j + (i + 1) by omega]
def GoodSto (P : Program) (l : List Oper) (n : Nat) (R : List HRes) (te : List AV) (hp : AHeap) (s : Sto) : Prop :=
  Nat.blt s.i n = true ∧ ∃ os, l[s.i]? = some os ∧ os.dst = none ∧ (∃ x0, R[s.i]? = some (x0, none)) ∧ awantedL l.toArray te os = some true ∧ AStoA P os (evalL te) s ∧
    ((∃ cs, hp[s.k]? = some (some (.var cs)) ∧ Nat.ble (s.off + s.vs.length) cs.length = true) ∨
      ∃ j x cs, Nat.blt j s.i = true ∧ ((Region.before l.toArray).getD s.i 0).testBit j = true ∧ R[j]? = some (x, some (.var cs)) ∧ slotOf hp.length R j = s.k ∧ Nat.ble (s.off + s.vs.length) cs.length = true)
def GoodL (P : Program) (l : List Oper) (n : Nat) (R : List HRes) (te : List AV) (hp : AHeap) : List Sto → Prop
  | [] => True
  | s :: r => GoodSto P l n R te hp s ∧ GoodL P l n R te hp r
theorem goodL_mem {P : Program} {l : List Oper} {n : Nat} {R : List HRes} {te : List AV} {hp : AHeap} : ∀ {SS : List Sto}, GoodL P l n R te hp SS → ∀ s ∈ SS, GoodSto P l n R te hp s
  | [], _, s, h => by simp at h
  | t :: r, h, s, hs => by
    rcases List.mem_cons.1 hs with rfl | hs
    · exact h.1
    · exact goodL_mem h.2 s hs
theorem slots_at (L : Nat → Bool) {R : List HRes} {s0 j : Nat} {x : AV} {B Bk : Blk} (h : R[j]? = some (x, some B)) (hb : (slotsL L 0 R)[slotOf s0 R j - s0]? = some (some Bk)) : Bk = B := by
  obtain ⟨q1, q2, q3, q4⟩ := slotsL_set L R 0 s0 j x B h
  by_cases hl : L j = true
  · have hsame : (fun q => if q = 0 + j then true else L q) = L := funext fun q => by
      split
      · rename_i e; rw [e, Nat.zero_add, hl]
      · rfl
    rw [hsame, hb] at q2
    cases q2; rfl
  · have := q3 (by simpa using hl)
    rw [hb] at this
    cases this
theorem awp_sto {P : Program} {B : Base} {Q : AExit → ASt → Prop} {id : Nat} {l : List Oper} {ts : List AV} {hp hp' : AHeap} {ds : List (FuncId × List AV)} (n : Nat) (sh : List Shp) (hm : P.follows .mixedOrders = true) (hchk : drawOk l n = true) (hsh : shB sh = true) (hmask : mskH sh hp = hp')
    (H : HeadsK P l.toArray hp' (fun R te => ∃ SS hp'', SS.map Sto.shp = sh ∧ GoodL P l n R te hp SS ∧ appS (fun _ => true) SS (hp ++ newsL R) = hp'' ∧ AOps P B l.toArray Q (l.drop n) ⟨te, hp'', ds⟩) (dumbL (sh.map (·.1)) 0 (l.take n)) ts hp'.length) : AWp P B (.region id l.toArray true) Q ⟨ts, hp, ds⟩ := by
  subst hmask
  obtain ⟨R, te, h1, SS, hp'', rfl, h3, rfl, h5⟩ := H.out
  have hn : n ≤ l.length := (drawOk_spec hchk).1
  have hml : (mskH (SS.map Sto.shp) hp).length = hp.length := by rw [← mskH_eq]; exact mskS_length SS hp
  rw [hml] at h1
  have hany : ∀ i, ((SS.map Sto.shp).map (·.1)).any (Nat.beq i) = true ↔ ∃ s ∈ SS, s.i = i := fun i => by
    simp only [List.any_eq_true, List.mem_map]
    constructor
    · rintro ⟨x, ⟨y, ⟨s, hs, rfl⟩, rfl⟩, hb⟩
      exact ⟨s, hs, (Nat.eq_of_beq_eq_true hb).symm⟩
    · rintro ⟨s, hs, rfl⟩
      exact ⟨s.i, ⟨s.shp, ⟨s, hs, rfl⟩, rfl⟩, Nat.beq_refl _⟩
  refine awp_region_sto (st := ⟨ts, hp, ds⟩) n SS hm hchk (R := R) (te := te) (lh := dumbL ((SS.map Sto.shp).map (·.1)) 0 (l.take n)) ?_ (fun i o hi ho hno => ?_) (fun i o o' hi ho ho' => ?_) (shB_pw SS hsh) (fun L s hs => ?_) (fun s hs => ?_) (by rw [mskH_eq]; exact h1) h5
  · have key : ∀ (is : List Nat) (os : List Oper) (j : Nat), (dumbL is j os).length = os.length := by
      intro is os
      induction os with
      | nil => intro j; rfl
      | cons o os ih => intro j; simp [dumbL, ih]
    rw [key]; simp; omega
  · rw [dumbL_get, List.getElem?_take, if_pos hi, show l[i]? = some o by simpa using ho]
    have : ((SS.map Sto.shp).map (·.1)).any (Nat.beq (0 + i)) = false := by
      rw [Nat.zero_add, Bool.eq_false_iff]
      intro h
      obtain ⟨s, hs, e⟩ := (hany i).1 h
      exact hno s hs e
    simp only [Option.map_some, this]
  · rw [dumbL_get, List.getElem?_take, if_pos hi, show l[i]? = some o by simpa using ho] at ho'
    simp only [Option.map_some, Option.some.injEq] at ho'
    subst ho'
    split <;> rfl
  · intro cs hcs
    obtain ⟨_, _, _, _, _, _, _, hb⟩ := goodL_mem h3 s hs
    rcases hb with ⟨cs0, h, hle⟩ | ⟨j, x, cs0, _, _, hR, hsl, hle⟩
    · rw [List.getElem?_append_left (List.getElem?_eq_some_iff.1 h).1, h] at hcs
      cases hcs
      exact Nat.le_of_ble_eq_true hle
    · have hge := slotOf_ge R hp.length j
      rw [← hsl, List.getElem?_append_right hge] at hcs
      have := slots_at L hR hcs
      cases this
      exact Nat.le_of_ble_eq_true hle
  · obtain ⟨a, os, b, c, d, e, f, hb⟩ := goodL_mem h3 s hs
    refine ⟨Nat.le_of_ble_eq_true a, os, by simpa using b, c, d, e, f, ?_⟩
    rcases hb with ⟨cs0, h, _⟩ | ⟨j, x, cs0, h1, h2, h3, h4, _⟩
    · exact .inl ⟨cs0, h⟩
    · exact .inr ⟨j, x, cs0, Nat.le_of_ble_eq_true h1, h2, h3, h4⟩
theorem asto {P : Program} {T : TT} (hT : TOk P T) {o : Oper} {ρ : Operand → AV} {i k off : Nat} {t : TypeId} {d : TD} {p x : Operand} {v : AV} (ho : o.op = .store t p x) (hdst : o.dst = none) (hd : T t = some d) (hpp : ρ p = .ptr k off)
    (hv : strict (ρ x) = some v) (hl : Nat.beq v.cellsOf.length d.size = true) (hs : v.cellsOf.all AV.scal = true) {vs : List AV} (hvs : v.cellsOf = vs) : AStoA P o ρ ⟨i, k, off, vs⟩ := fun w S φ a next Q H cs hr hk hfit hev hn => by
  rw [strict_eq] at hv
  cases hv
  subst hvs
  have h1 := Nat.eq_of_beq_eq_true hl
  have hs' : (ρ x).cellsOf.all (solid H) = true := List.all_eq_true.2 fun y hy => by
    have := List.all_eq_true.1 hs y hy
    cases y <;> simp [AV.scal] at this <;> rfl
  obtain ⟨k1, k2, k3⟩ := cells_rep hr.live (hev x (by simp [ho, Op.operands])) hs'
  have hpr := hev p (by simp [ho, Op.operands])
  rw [hpp] at hpr
  obtain ⟨_, g, q1, q2⟩ := hr.live k _ hk
  generalize hpv : a.eval p = pv at hpr
  cases hpr with
  | ptr hk' hv' =>
    obtain ⟨g', h3, rfl⟩ := hv' _ q1 rfl
    simp [Blk.loc] at h3
    subst h3
    obtain ⟨_, cur, ty, h4, h5, h6, h7⟩ := q2
    have h6' : cur.size = cs.length := h6
    simp only at hfit
    have hrun := run_storeAt hT hd (off := off) h4 (k1.trans h1) k2 (by omega)
    obtain ⟨g1, g2⟩ := splice_set hr hk q1 h4 h6' h7 (vs := (a.eval x).cells.toList) (xs := (ρ x).cellsOf) (off := off) (by simpa using k1) (fun j y hj => by
      have := k3 j y hj
      simpa [List.getD_eq_getElem?_getD, Array.getD_eq_getD_getElem?] using this) (by omega)
    have hset : setB H k off (ρ x).cellsOf = H.set k (some (.var (splice off (ρ x).cellsOf cs))) := by simp [setB, hk]
    have := hn _ (by simp only [hset]; exact g1) g2
    rw [hdst] at this
    unfold Oper.wp execOp
    simp only [ho, hpv, Sem.run_bind, hrun, Result.andThen_ok, Sem.run_pure, Oper.upon_skip, hdst]
    exact this
section lists
variable {P : Program} {ops : Array Oper} {hp : AHeap} {K : List HRes → List AV → Prop} {o : Oper} {os : List Oper} {ts : List AV} {s i : Nat} {is : List Nat}
theorem kq (hi : is.any (Nat.beq i) = false) (hr : HeadsK P ops hp K (o :: dumbL is (i + 1) os) ts s) : HeadsK P ops hp K (dumbL is i (o :: os)) ts s := by
  have : dumbL is i (o :: os) = o :: dumbL is (i + 1) os := by simp only [dumbL, hi]
  rw [this]; exact hr
theorem kw (hi : is.any (Nat.beq i) = true) (hr : HeadsK P ops hp K (dumb o :: dumbL is (i + 1) os) ts s) : HeadsK P ops hp K (dumbL is i (o :: os)) ts s := by
  have : dumbL is i (o :: os) = dumb o :: dumbL is (i + 1) os := by simp only [dumbL, hi]
  rw [this]; exact hr
end lists
/-- An old variable's store; a new one's. -/
theorem gso {P : Program} {l : List Oper} {n : Nat} {R : List HRes} {te : List AV} {hp : AHeap} {s : Sto} {os : Oper} {x0 : AV} {cs : List AV} (h0 : Nat.blt s.i n = true) (h1 : l[s.i]? = some os) (h2 : os.dst = none) (h3 : R[s.i]? = some (x0, none)) (h4 : awantedL l.toArray te os = some true) (h5 : AStoA P os (evalL te) s)
    (h6 : hp[s.k]? = some (some (.var cs))) (h7 : Nat.ble (s.off + s.vs.length) cs.length = true) : GoodSto P l n R te hp s := ⟨h0, os, h1, h2, ⟨x0, h3⟩, h4, h5, .inl ⟨cs, h6, h7⟩⟩
theorem gsn {P : Program} {l : List Oper} {n : Nat} {R : List HRes} {te : List AV} {hp : AHeap} {i k off : Nat} {vs : List AV} {os : Oper} {x0 x : AV} {cs : List AV} (j : Nat) (h0 : Nat.blt i n = true) (h1 : l[i]? = some os) (h2 : os.dst = none) (h3 : R[i]? = some (x0, none)) (h4 : awantedL l.toArray te os = some true) (h5 : AStoA P os (evalL te) ⟨i, k, off, vs⟩)
    (h6 : Nat.blt j i = true) (h7 : ((Region.before l.toArray).getD i 0).testBit j = true) (h8 : R[j]? = some (x, some (.var cs))) (h9 : slotOf hp.length R j = k) (h10 : Nat.ble (off + vs.length) cs.length = true) : GoodSto P l n R te hp ⟨i, k, off, vs⟩ := ⟨h0, os, h1, h2, ⟨x0, h3⟩, h4, h5, .inr ⟨j, x, cs, h6, h7, h8, h9, h10⟩⟩
/-- A call walked in place is about to return: its own blocks are lost. -/
theorem tc {P : Program} {B : Base} {Q : AExit → ASt → Prop} {c : Code} {ts ts' : List AV} {hp hp' : AHeap} (ks : List Nat) (n : Nat) (h : AWp P B c Q ⟨ts', hp', []⟩) (he : kpt ks [] 0 ts = ts') (ht : hp.take n = hp') (ok : AHeap.ok hp') (hu : AV.underL hp'.length ts' = true)
    (hn : B.n ≤ hp'.length := by apply hnl; assumption; rfl) : AWp P B c Q ⟨ts, hp, []⟩ := by
  refine awp_sweak (SWeak.trans (sk ks [] he) (sweak_cut n ht ok hu) ?_) hn h
  subst ht; simp only [List.length_take]; exact Nat.min_le_right _ _
theorem ares_cells2 {P : Program} {T : TT} (hT : TOk P T) {fn : Func} {st : ASt} {xs : List AV} (h : aresC T st fn.results.toList = some xs) (h1 : Nat.beq xs.length 1 = false) : ARes P fn st (.tuple xs) := ares_cells hT h (fun e => by rw [e] at h1; cases h1)
section frz
variable {P : Program} {B : Base} {Q : AExit → ASt → Prop} {ops : Array Oper} {l : List Oper} {c : Code} {ts ts' : List AV} {hp hp' : AHeap} {ds : List (FuncId × List AV)} {α : Type} {enc : α → List AV} {L : List α}
theorem fz (i k sz : Nat) {e : TypeId} (hi : ts[i]? = some (.own k (List.map enc L).length)) (hk : hp[k]? = some (some (.row (List.map enc L) sz e))) (hu : ∀ x, AV.underL 0 (enc x) = true) (h : AOps P B ops Q l ⟨ts', hp', ds⟩)
    (hts : ts.set i (.list (List.map enc L)) = ts' := by dsimp only [List.set]) (hh : hp.set k none = hp' := by dsimp only [List.set]) (hn : B.n ≤ hp.length := by apply hnl; assumption; rfl) : AOps P B ops Q l ⟨ts, hp, ds⟩ :=
  d_freeze i k sz hi hk (all_under hu L) hn hts hh h
theorem fc (i k sz : Nat) {e : TypeId} (hi : ts[i]? = some (.own k (List.map enc L).length)) (hk : hp[k]? = some (some (.row (List.map enc L) sz e))) (hu : ∀ x, AV.underL 0 (enc x) = true) (h : AWp P B c Q ⟨ts', hp', ds⟩)
    (hts : ts.set i (.list (List.map enc L)) = ts' := by dsimp only [List.set]) (hh : hp.set k none = hp' := by dsimp only [List.set]) (hn : B.n ≤ hp.length := by apply hnl; assumption; rfl) : AWp P B c Q ⟨ts, hp, ds⟩ :=
  c_freeze i k sz hi hk (all_under hu L) hn hts hh h
theorem oc (i sz : Nat) (e : TypeId) (hi : ts[i]? = some .nilsl) (h : AWp P B c Q ⟨ts', hp', ds⟩) (hts : ts.set i (.own hp.length 0) = ts' := by dsimp only [List.set]) (hh : hp ++ [some (.row [] sz e)] = hp' := by dsimp only [List.append, HAppend.hAppend, Append.append]) (hn : B.n ≤ hp.length := by apply hnl; assumption; rfl) : AWp P B c Q ⟨ts, hp, ds⟩ :=
  c_own i sz e hi hn hts hh h
end frz
theorem kd {P : Program} {ops : Array Oper} {hp : AHeap} {K : List HRes → List AV → Prop} {o : Oper} {os : List Oper} {ts : List AV} {s : Nat} (hd : o.dst = none) (hr : HeadsK P ops hp (fun R te => K ((.bool false, none) :: R) te) os ts s) : HeadsK P ops hp K (dumb o :: os) ts s := hk_dumb hd hr
end Go.Proofs.Ytpckfpahmnhfcaa.G
