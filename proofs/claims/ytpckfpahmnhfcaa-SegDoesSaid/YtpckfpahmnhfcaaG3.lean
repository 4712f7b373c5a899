/- The ghost machine's operations that make and change blocks; calls in any heap; ghost steps. -/
import Derived.Test.YtpckfpahmnhfcaaG2
namespace Go.Proofs.Ytpckfpahmnhfcaa.G
open Go Go.RowKit
set_option linter.unusedVariables false
set_option linter.unusedSimpArgs false

def AV.scal : AV → Bool
  | .bool _ | .int _ _ | .str _ | .nilsl | .list _ | .own _ _ | .nilptr | .fptr _ | .fn _ _ _ | .nilfn | .iface _ _ | .nilIface => true
  | _ => false
/-- A value of one cell, surely. -/
def solid (h : AHeap) (x : AV) : Bool :=
  match x with
  | .ptr k _ => match h[k]? with
    | some (some (.var _)) => true
    | _ => false
  | x => x.scal

section
variable {w : World} {S : Nat → Prop} {φ : Phi} {h : AHeap}

theorem scal_one {v : Value} {x : AV} (hv : Rep w S φ v x) (hs : x.scal = true) : v.oneCell' = true := by
  cases hv with
  | own _ _ _ h1 => obtain ⟨_, _, _, rfl⟩ := h1; rfl
  | _ => first | rfl | (simp [AV.scal] at hs)
theorem solid_one {v : Value} {x : AV} (hh : HLive w S φ h) (hv : Rep w S φ v x) (hs : solid h x = true) : v.oneCell' = true := by
  unfold solid at hs
  split at hs
  · rename_i k off
    split at hs
    · rename_i cs hk
      obtain ⟨_, g, h1, _⟩ := hh k _ hk
      cases hv with
      | ptr hk' hv' => obtain ⟨g, _, rfl⟩ := hv' _ h1 rfl; rfl
    · cases hs
  · exact scal_one hv hs
theorem cells_one {v : Value} (h : v.oneCell' = true) : v.cells = #[v] := by cases v <;> first | rfl | cases h

theorem cells_rep {v : Value} {x : AV} (hh : HLive w S φ h) (hv : Rep w S φ v x) (hs : x.cellsOf.all (solid h) = true) :
    v.cells.size = x.cellsOf.length ∧ (∀ u ∈ v.cells.toList, u.oneCell' = true) ∧ ∀ (j : Nat) (y : AV), x.cellsOf[j]? = some y → Rep w S φ (v.cells.getD j Go.undef) y := by
  have one : ∀ {v : Value} {x : AV}, Rep w S φ v x → solid h x = true → v.cells.size = [x].length ∧ (∀ u ∈ v.cells.toList, u.oneCell' = true) ∧ ∀ (j : Nat) (y : AV), [x][j]? = some y → Rep w S φ (v.cells.getD j Go.undef) y := fun {v x} hv hs => by
    have h1 := solid_one hh hv hs
    rw [cells_one h1]
    refine ⟨rfl, fun u hu => ?_, fun j y hj => ?_⟩
    · simp at hu; subst hu; exact h1
    · cases j with
      | zero => simp at hj; subst hj; exact hv
      | succ j => simp at hj
  unfold AV.cellsOf at hs ⊢
  split
  · rename_i cs
    cases hv with
    | agg hl hr =>
      rename_i vs
      refine ⟨hl, fun u hu => ?_, hr⟩
      simp only [Value.cells] at hu
      obtain ⟨j, hj⟩ := List.mem_iff_getElem?.1 hu
      have hlt : j < vs.size := by simpa using (List.getElem?_eq_some_iff.1 hj).1
      have hlt' : j < cs.length := by omega
      have hx := List.getElem?_eq_getElem hlt'
      have := hr j _ hx
      have e : vs.getD j Go.undef = u := by
        rw [Array.getElem?_toList] at hj
        simp [Array.getD_eq_getD_getElem?, hj]
      rw [e] at this
      refine solid_one hh this ?_
      simp only [List.all_eq_true] at hs
      exact hs _ (List.getElem_mem hlt')
  · rename_i hne
    have hs' : solid h x = true := by
      split at hs
      · exact absurd rfl (hne _)
      · simpa using hs
    exact one hv hs'
end

/-! ### a new block; a block changed -/
def updPhi (φ : Phi) (k : Nat) (L : Option Loc) : Phi := fun j => if j = k then some L else φ j

theorem heap_old (w : World) (o : Obj) (k : Nat) (hk : k < w.heap.size) : (w.alloc o).heap[k]? = w.heap[k]? := Below.heap_alloc w o k hk
theorem heap_new (w : World) (o : Obj) : (w.alloc o).heap[w.heap.size]? = some o := (MapKept.heap_alloc w o).1

theorem hrel_lt {w : World} {S : Nat → Prop} {φ : Phi} {h : AHeap} (hh : HRel w S φ h) {k g : Nat} {L : Loc} (hk : φ k = some (some L)) (hg : L.g = some g) : g < w.heap.size := by
  have hlt : k < h.length := Nat.lt_of_not_le fun hle => by
    have := hh.dom k hle
    rw [hk] at this; cases this
  cases hb : h[k]? with
  | none => rw [List.getElem?_eq_none_iff] at hb; omega
  | some o =>
    cases o with
    | none => rcases hh.dead k hb with this | this <;> (rw [hk] at this; cases this)
    | some B =>
      obtain ⟨_, g', h1, h2⟩ := hh.live k B hb
      rw [hk] at h1
      cases h1
      simp [Blk.loc] at hg
      subst hg
      obtain ⟨_, cs, ty, h3, _⟩ := h2
      exact (Array.getElem?_eq_some_iff.1 h3).1

/-- A draw changes nothing. -/
theorem hrel_drew {w : World} {S : Nat → Prop} {φ : Phi} {h : AHeap} (hh : HRel w S φ h) : HRel w.drew S φ h ∧ Ext w S φ w.drew S φ := by
  have hst : Step w S φ w.drew S φ := ⟨fun _ h => h, fun _ _ => rfl, fun _ => .inr (.inl rfl), fun _ _ _ _ _ _ _ cs _ h => ⟨cs, h, rfl⟩⟩
  refine ⟨⟨hh.dom, hh.dead, fun k B hk => ?_, hh.inj, hh.bound⟩, ⟨hst, rfl, rfl, rfl, Nat.le_refl _, fun _ _ _ => rfl, fun _ h => .inl h, fun k g L h hg => .inr ⟨k, L, h, hg⟩⟩⟩
  obtain ⟨h1, g, h2, h3⟩ := hh.live k B hk
  refine ⟨h1, g, h2, ?_⟩
  cases g with
  | none => exact h3
  | some g => obtain ⟨a, cs, ty, b, c, d, e⟩ := h3; exact ⟨a, cs, ty, b, c, d, fun j x hj => (e j x hj).step hst⟩

/-- A new block, laid behind the others (or a ghost of none). -/
theorem hrel_ghost {w : World} {S : Nat → Prop} {φ : Phi} {h : AHeap} (hh : HRel w S φ h) (sz : Nat) (e : TypeId) :
    HRel w S (updPhi φ h.length (some ⟨none, 0, sz, e⟩)) (h ++ [some (.row [] sz e)]) ∧ Ext w S φ w S (updPhi φ h.length (some ⟨none, 0, sz, e⟩)) := by
  have hn : φ h.length = none := hh.dom _ (Nat.le_refl _)
  have hst : Step w S φ w S (updPhi φ h.length (some ⟨none, 0, sz, e⟩)) := ⟨fun _ h => h, fun _ _ => rfl, fun k => by
    by_cases hk : k = h.length
    · subst hk; exact .inl hn
    · exact .inr (.inl (by simp [updPhi, hk])), fun _ _ _ _ _ _ _ cs _ h => ⟨cs, h, rfl⟩⟩
  refine ⟨⟨fun k => ?_, fun k hk => ?_, fun k B hk => ?_, fun k k' g L L' h1 h2 g1 g2 => ?_, hh.bound⟩, ⟨hst, rfl, rfl, rfl, Nat.le_refl _, fun _ _ _ => rfl, fun _ h => .inl h, fun k g L hk hg => ?_⟩⟩
  · intro hle
    simp only [List.length_append, List.length_singleton] at hle
    have hk : k ≠ h.length := by omega
    simp only [updPhi, hk, if_false]; exact hh.dom k (by omega)
  · rcases Nat.lt_or_ge k h.length with hlt | hge
    · rw [List.getElem?_append_left hlt] at hk
      simp only [updPhi, Nat.ne_of_lt hlt, if_false]; exact hh.dead k hk
    · rw [List.getElem?_append_right hge] at hk
      have : k - h.length = 0 := by
        have := (List.getElem?_eq_some_iff.1 hk).1; simp at this; omega
      simp [this] at hk
  · rcases Nat.lt_or_ge k h.length with hlt | hge
    · rw [List.getElem?_append_left hlt] at hk
      obtain ⟨h1, g, h2, h3⟩ := hh.live k B hk
      refine ⟨h1, g, by simp only [updPhi, Nat.ne_of_lt hlt, if_false]; exact h2, ?_⟩
      cases g with
      | none => exact h3
      | some g => obtain ⟨a, cs, ty, b, c, d, e⟩ := h3; exact ⟨a, cs, ty, b, c, d, fun j x hj => (e j x hj).step hst⟩
    · rw [List.getElem?_append_right hge] at hk
      have h0 : k - h.length = 0 := by
        have := (List.getElem?_eq_some_iff.1 hk).1; simp at this; omega
      rw [h0] at hk
      simp at hk
      subst hk
      have hk' : k = h.length := by omega
      subst hk'
      exact ⟨by simp [Blk.even], none, by simp [updPhi, Blk.loc, Blk.n, Blk.sz, Blk.e], sz, e, rfl⟩
  · unfold updPhi at h1 h2
    split at h1
    · cases h1; simp at g1
    · split at h2
      · cases h2; simp at g2
      · exact hh.inj k k' g L L' h1 h2 g1 g2
  · unfold updPhi at hk
    split at hk
    · cases hk; simp at hg
    · exact .inr ⟨k, L, hk, hg⟩

theorem hrel_new {w : World} {S : Nat → Prop} {φ : Phi} {h : AHeap} (hh : HRel w S φ h) (B : Blk) (cs : Array Value) (ty : TypeId) (hev : B.even) (hfull : B.full cs.size ty) (hlen : B.cells.length ≤ cs.size)
    (hc : ∀ (j : Nat) (x : AV), B.cells[j]? = some x → Rep w S φ (cs.getD j Go.undef) x) :
    HRel (w.alloc (.cells cs ty)) S (updPhi φ h.length (some (B.loc (some w.heap.size)))) (h ++ [some B]) ∧ Ext w S φ (w.alloc (.cells cs ty)) S (updPhi φ h.length (some (B.loc (some w.heap.size)))) := by
  have hn : φ h.length = none := hh.dom _ (Nat.le_refl _)
  have hst : Step w S φ (w.alloc (.cells cs ty)) S (updPhi φ h.length (some (B.loc (some w.heap.size)))) := ⟨fun _ h => h, fun b hb => heap_old _ _ _ (hh.bound b hb), fun k => by
    by_cases hk : k = h.length
    · subst hk; exact .inl hn
    · exact .inr (.inl (by simp [updPhi, hk])), fun k g n sz e hk he cs' ty' hw => ⟨cs', by rw [heap_old _ _ _ (Array.getElem?_eq_some_iff.1 hw).1]; exact hw, rfl⟩⟩
  refine ⟨⟨fun k => ?_, fun k hk => ?_, fun k B' hk => ?_, fun k k' g L L' h1 h2 g1 g2 => ?_, fun b hb => ?_⟩, ⟨hst, rfl, rfl, rfl, by simp, fun b hb _ => heap_old _ _ _ hb, fun _ h => .inl h, fun k g L hk hg => ?_⟩⟩
  · intro hle
    simp only [List.length_append, List.length_singleton] at hle
    have hk : k ≠ h.length := by omega
    simp only [updPhi, hk, if_false]; exact hh.dom k (by omega)
  · rcases Nat.lt_or_ge k h.length with hlt | hge
    · rw [List.getElem?_append_left hlt] at hk
      simp only [updPhi, Nat.ne_of_lt hlt, if_false]; exact hh.dead k hk
    · rw [List.getElem?_append_right hge] at hk
      have : k - h.length = 0 := by
        have := (List.getElem?_eq_some_iff.1 hk).1; simp at this; omega
      simp [this] at hk
  · rcases Nat.lt_or_ge k h.length with hlt | hge
    · rw [List.getElem?_append_left hlt] at hk
      obtain ⟨h1, g, h2, h3⟩ := hh.live k B' hk
      refine ⟨h1, g, by simp only [updPhi, Nat.ne_of_lt hlt, if_false]; exact h2, ?_⟩
      cases g with
      | none => exact h3
      | some g =>
        obtain ⟨a, cs', ty', b, c, d, e⟩ := h3
        exact ⟨a, cs', ty', by rw [heap_old _ _ _ (Array.getElem?_eq_some_iff.1 b).1]; exact b, c, d, fun j x hj => (e j x hj).step hst⟩
    · rw [List.getElem?_append_right hge] at hk
      have h0 : k - h.length = 0 := by
        have := (List.getElem?_eq_some_iff.1 hk).1; simp at this; omega
      rw [h0] at hk
      simp at hk
      subst hk
      have hk' : k = h.length := by omega
      subst hk'
      refine ⟨hev, some w.heap.size, by simp [updPhi], fun hS => ?_, cs, ty, heap_new _ _, hlen, hfull, fun j x hj => (hc j x hj).step hst⟩
      have := hh.bound _ hS; omega
  · unfold updPhi at h1 h2
    split at h1
    · split at h2
      · rename_i e1 e2; rw [e1, e2]
      · cases h1
        simp [Blk.loc] at g1
        have := hrel_lt hh h2 g2; omega
    · split at h2
      · cases h2
        simp [Blk.loc] at g2
        have := hrel_lt hh h1 g1; omega
      · exact hh.inj k k' g L L' h1 h2 g1 g2
  · have := hh.bound b hb
    show b < (w.heap.push _).size
    simp; omega
  · unfold updPhi at hk
    split at hk
    · cases hk; simp [Blk.loc] at hg; exact .inl (by omega)
    · exact .inr ⟨k, L, hk, hg⟩

theorem hrel_set {w : World} {S : Nat → Prop} {φ : Phi} {h : AHeap} (hh : HRel w S φ h) {k g : Nat} {B B' : Blk} (hk : h[k]? = some (some B)) (hg : φ k = some (some (B.loc (some g)))) (hloc : B'.loc (some g) = B.loc (some g))
    {cs cs' : Array Value} {ty : TypeId} (hw : w.heap[g]? = some (.cells cs ty (0, 0))) (hsz : cs'.size = cs.size) (hev : B'.even) (hfull : B'.full cs'.size ty) (hlen : B'.cells.length ≤ cs'.size)
    (hc : ∀ (j : Nat) (x : AV), B'.cells[j]? = some x → Rep w S φ (cs'.getD j Go.undef) x) :
    HRel (w.setRow g cs') S φ (h.set k (some B')) ∧ Ext w S φ (w.setRow g cs') S φ := by
  have hnS : ¬ S g := by
    obtain ⟨_, g', h1, h2⟩ := hh.live k B hk
    rw [hg] at h1; cases h1
    exact h2.1
  have hlt : k < h.length := (List.getElem?_eq_some_iff.1 hk).1
  have hst : Step w S φ (w.setRow g cs') S φ := ⟨fun _ h => h, fun b hb => setRow_other w g b cs' (fun e => hnS (e ▸ hb)), fun _ => .inr (.inl rfl), fun k' g' n sz e _ _ cs1 ty1 hw1 => by
    by_cases hgg : g' = g
    · subst hgg
      rw [hw] at hw1; cases hw1
      exact ⟨cs', setRow_heap w g' cs cs' ty (0, 0) hw, hsz⟩
    · exact ⟨cs1, by rw [setRow_other w g g' cs' hgg]; exact hw1, rfl⟩⟩
  refine ⟨⟨fun k' => ?_, fun k' hk' => ?_, fun k' B1 hk' => ?_, hh.inj, fun b hb => ?_⟩, ⟨hst, rfl, rfl, rfl, by simp, fun b hb hno => ?_, fun _ h => .inl h, fun k' g' L hk' hg' => .inr ⟨k', L, hk', hg'⟩⟩⟩
  · rw [List.length_set]; exact hh.dom k'
  · rw [List.getElem?_set] at hk'
    split at hk'
    · simp at hk'
    · exact hh.dead k' hk'
  · rw [List.getElem?_set] at hk'
    split at hk'
    · rename_i e
      subst e
      simp only [hlt, if_true, Option.some.injEq] at hk'
      subst hk'
      refine ⟨hev, some g, by rw [hg, hloc], hnS, cs', ty, setRow_heap w g cs cs' ty (0, 0) hw, hlen, hfull, fun j x hj => (hc j x hj).step hst⟩
    · rename_i hne
      obtain ⟨h1, g1, h2, h3⟩ := hh.live k' B1 hk'
      refine ⟨h1, g1, h2, ?_⟩
      cases g1 with
      | none => exact h3
      | some g1 =>
        obtain ⟨a, cs1, ty1, b, c, d, e⟩ := h3
        have hgg : g1 ≠ g := fun e => by
          subst e
          exact hne (hh.inj k k' g1 _ _ hg h2 rfl rfl)
        exact ⟨a, cs1, ty1, by rw [setRow_other w g g1 cs' hgg]; exact b, c, d, fun j x hj => (e j x hj).step hst⟩
  · rw [setRow_size]; exact hh.bound b hb
  · exact setRow_other w g b cs' (fun e => hno k _ hg (by rw [e]; rfl))

/-! ### what leaves old blocks alone -/
theorem hrel_quiet {w w' : World} {S S' : Nat → Prop} {φ : Phi} {h : AHeap} (hh : HRel w S φ h) (hb : Below w.heap.size w w') (hs : ∀ b, S b → S' b) (hs' : ∀ b, S' b → S b ∨ w.heap.size ≤ b) (hbd : ∀ b, S' b → b < w'.heap.size) :
    HRel w' S' φ h ∧ Ext w S φ w' S' φ := by
  have hst : Step w S φ w' S' φ := ⟨hs, fun b hb' => hb.block b (hh.bound b hb'), fun _ => .inr (.inl rfl), fun k g n sz e hk he cs ty hw => ⟨cs, by rw [hb.block g (Array.getElem?_eq_some_iff.1 hw).1]; exact hw, rfl⟩⟩
  refine ⟨⟨hh.dom, hh.dead, fun k B hk => ?_, hh.inj, hbd⟩, ⟨hst, hb.os, hb.tape, hb.output, hb.size, fun b hlt _ => hb.block b hlt, fun b h => (hs' b h).imp id .inl, fun k g L hk hg => .inr ⟨k, L, hk, hg⟩⟩⟩
  obtain ⟨h1, g, h2, h3⟩ := hh.live k B hk
  refine ⟨h1, g, h2, ?_⟩
  cases g with
  | none => exact h3
  | some g =>
    have hlt := hrel_lt hh h2 rfl
    obtain ⟨a, cs, ty, b, c, d, e⟩ := h3
    refine ⟨fun hS => ?_, cs, ty, by rw [hb.block g hlt]; exact b, c, d, fun j x hj => (e j x hj).step hst⟩
    rcases hs' g hS with h | h
    · exact a h
    · omega

/-- What an operation that leaves old blocks alone leaves behind: no block of the call's own, or the block B at place k. -/
def NewRel (nb : Option (Nat × Blk)) (w : World) (w' : World) (S' : Nat → Prop) (φ φ' : Phi) : Prop :=
  match nb with
  | none => φ' = φ
  | some (k, B) => B.even ∧ ∃ g, φ' = updPhi φ k (some (B.loc g)) ∧ BlkAt w' S' φ' B g ∧ ∀ g0, g = some g0 → w.heap.size ≤ g0

/-- A new block at a place where there is none yet. -/
theorem hrel_slot {w w' : World} {S S' : Nat → Prop} {φ φ' : Phi} {h h' : AHeap} {k : Nat} {B : Blk} (hh : HRel w S φ h) (hb : Below w.heap.size w w') (hs : ∀ b, S b → S' b) (hs' : ∀ b, S' b → S b ∨ w.heap.size ≤ b) (hbd : ∀ b, S' b → b < w'.heap.size)
    (hn : NewRel (some (k, B)) w w' S' φ φ') (hk : φ k = none) (hlen : k < h'.length) (hle : h.length ≤ h'.length) (hh' : h'[k]? = some (some B)) (hold : ∀ j, j ≠ k → j < h'.length → h'[j]? = h[j]? ∨ (h'[j]? = some none ∧ h[j]? = none)) :
    HRel w' S' φ' h' ∧ Ext w S φ w' S' φ' := by
  obtain ⟨hev, g, rfl, hat, hg⟩ := hn
  have hst : Step w S φ w' S' (updPhi φ k (some (B.loc g))) := ⟨hs, fun b hb' => hb.block b (hh.bound b hb'), fun j => by
    by_cases hj : j = k
    · subst hj; exact .inl hk
    · exact .inr (.inl (by simp [updPhi, hj])), fun j g n sz e hj he cs ty hw => ⟨cs, by rw [hb.block g (Array.getElem?_eq_some_iff.1 hw).1]; exact hw, rfl⟩⟩
  refine ⟨⟨fun j hj => ?_, fun j hj => ?_, fun j B' hj => ?_, fun j j' g1 L L' h1 h2 e1 e2 => ?_, hbd⟩, ⟨hst, hb.os, hb.tape, hb.output, hb.size, fun b hlt _ => hb.block b hlt, fun b h => (hs' b h).imp id .inl, fun j g1 L hj hg1 => ?_⟩⟩
  · have : j ≠ k := by omega
    simp only [updPhi, this, if_false]; exact hh.dom j (by omega)
  · have hne : j ≠ k := fun e => by subst e; rw [hh'] at hj; simp at hj
    have hlt : j < h'.length := (List.getElem?_eq_some_iff.1 hj).1
    simp only [updPhi, hne, if_false]
    rcases hold j hne hlt with h1 | ⟨h1, h2⟩
    · exact hh.dead j (h1 ▸ hj)
    · exact .inl (hh.dom j (List.getElem?_eq_none_iff.1 h2))
  · by_cases hne : j = k
    · subst hne
      rw [hh'] at hj
      simp at hj
      subst hj
      exact ⟨hev, g, by simp [updPhi], hat⟩
    · have hlt : j < h'.length := (List.getElem?_eq_some_iff.1 hj).1
      rcases hold j hne hlt with h1 | ⟨h1, h2⟩
      · rw [h1] at hj
        obtain ⟨q1, g1, q2, q3⟩ := hh.live j B' hj
        refine ⟨q1, g1, by simp only [updPhi, hne, if_false]; exact q2, ?_⟩
        cases g1 with
        | none => exact q3
        | some g1 =>
          have hlt1 := hrel_lt hh q2 rfl
          obtain ⟨a, cs, ty, b, c, d, e⟩ := q3
          refine ⟨fun hS => ?_, cs, ty, by rw [hb.block g1 hlt1]; exact b, c, d, fun j x hj => (e j x hj).step hst⟩
          rcases hs' g1 hS with h | h
          · exact a h
          · omega
      · rw [h1] at hj; simp at hj
  · unfold updPhi at h1 h2
    split at h1
    · split at h2
      · rename_i a b; rw [a, b]
      · cases h1
        have := hg g1 (by simpa [Blk.loc] using e1)
        have := hrel_lt hh h2 e2; omega
    · split at h2
      · cases h2
        have := hg g1 (by simpa [Blk.loc] using e2)
        have := hrel_lt hh h1 e1; omega
      · exact hh.inj j j' g1 L L' h1 h2 e1 e2
  · unfold updPhi at hj
    split at hj
    · cases hj; exact .inl (hg g1 (by simpa [Blk.loc] using hg1))
    · exact .inr ⟨j, L, hj, hg1⟩

/-- AN OPERATION THAT LEAVES OLD BLOCKS ALONE: it yields x, and perhaps a new block. It looks at its operands and at the heap hp alone. -/
def AHead (P : Program) (o : Oper) (ρ : Operand → AV) (hp : AHeap) (x : AV) (nb : Option (Nat × Blk)) : Prop :=
  ∀ w S φ (a : Act) (next : Act → World → Prop) (Q : Exit → Act → World → Prop), HLive w S φ hp → (∀ b, S b → b < w.heap.size) → (∀ y ∈ o.op.operands, Rep w S φ (a.eval y) (ρ y)) → (∀ k B, nb = some (k, B) → φ k = none) →
    (∀ v w' S' φ', Below w.heap.size w w' → (∀ b, S b → S' b) → (∀ b, S' b → S b ∨ w.heap.size ≤ b) → (∀ b, S' b → b < w'.heap.size) → NewRel nb w w' S' φ φ' → Rep w' S' φ' v x → next (a.put o.dst v) w') → o.wp P a w next Q

section heads
variable {P : Program} {T : TT} {o : Oper} {ρ : Operand → AV} {hp : AHeap}

theorem head_pure (hT : TOk P T) {x : AV} (h : apure T o ρ hp = some x) : AHead P o ρ hp x none := fun w S φ a next Q hl hb hev _ hk => by
  obtain ⟨v, h1, h2⟩ := apure_sound hT h a hl hev
  unfold Oper.wp
  rw [h1, Oper.upon_value]
  exact hk v w S φ (.refl _ _) (fun _ h => h) (fun _ h => .inl h) hb rfl h2

theorem below_alloc (w : World) (o : Obj) : Below w.heap.size w (w.alloc o) := (Below.refl _ _).alloc (Nat.le_refl _) o

theorem step_alloc {w : World} {S : Nat → Prop} {φ : Phi} (hb : ∀ b, S b → b < w.heap.size) {k : Nat} (hk : φ k = none) (o : Obj) (L : Option Loc) : Step w S φ (w.alloc o) S (updPhi φ k L) :=
  ⟨fun _ h => h, fun b hb' => heap_old _ _ _ (hb b hb'), fun j => by
    by_cases hj : j = k
    · subst hj; exact .inl hk
    · exact .inr (.inl (by simp [updPhi, hj])), fun j g n sz e hj he cs ty hw => ⟨cs, by rw [heap_old _ _ _ (Array.getElem?_eq_some_iff.1 hw).1]; exact hw, rfl⟩⟩

/-- A new row of cells. -/
theorem newRel_alloc {w : World} {S : Nat → Prop} {φ : Phi} (hb : ∀ b, S b → b < w.heap.size) {k : Nat} (hk : φ k = none) (B : Blk) (cs : Array Value) (ty : TypeId) (hev : B.even) (hfull : B.full cs.size ty) (hlen : B.cells.length ≤ cs.size)
    (hc : ∀ (j : Nat) (x : AV), B.cells[j]? = some x → Rep w S φ (cs.getD j Go.undef) x) : NewRel (some (k, B)) w (w.alloc (.cells cs ty)) S φ (updPhi φ k (some (B.loc (some w.heap.size)))) :=
  ⟨hev, some w.heap.size, rfl, ⟨fun hS => by have := hb _ hS; omega, cs, ty, heap_new _ _, hlen, hfull, fun j x hj => (hc j x hj).step (step_alloc hb hk _ _)⟩, fun g0 h => by cases h; exact Nat.le_refl _⟩

theorem bound_alloc {w : World} {S : Nat → Prop} (hb : ∀ b, S b → b < w.heap.size) (o : Obj) : ∀ b, S b → b < (w.alloc o).heap.size := fun b h => by
  have := hb b h
  show b < (w.heap.push _).size
  simp; omega

theorem head_box {t : TypeId} {x : Operand} (k : Nat) (ho : o.op = .box t x) (hs : (ρ x).cellsOf.all (solid hp) = true) : AHead P o ρ hp (.ptr k 0) (some (k, .var (ρ x).cellsOf)) := fun w S φ a next Q hl hb hev hn hk => by
  obtain ⟨k1, k2, k3⟩ := cells_rep hl (hev x (by simp [ho, Op.operands])) hs
  have hn' := hn _ _ rfl
  unfold Oper.wp execOp
  simp only [ho, Instr.box, newVar, newRow, newObj, Sem.run_bind, Sem.run, Result.andThen_ok, Sem.run_pure, Oper.upon_value]
  exact hk _ _ S _ (below_alloc w _) (fun _ h => h) (fun _ h => .inl h) (bound_alloc hb _) (newRel_alloc hb hn' (.var (ρ x).cellsOf) (a.eval x).cells t trivial k1 (by simp [Blk.cells, k1]) k3)
    (.ptr (by simp [updPhi]) fun L hL hn => by simp [updPhi] at hL; subst hL; exact ⟨w.heap.size, rfl, rfl⟩)

theorem head_alloc (hT : TOk P T) {t : TypeId} {d : TD} (k : Nat) (ho : o.op = .alloc t) (hd : T t = some d) : AHead P o ρ hp (.ptr k 0) (some (k, .var d.zero)) := fun w S φ a next Q hl hb hev hn hk => by
  obtain ⟨i, ut, h1, h2, h3, _, h5, z, hz, hzo, hzl⟩ := hT.get hd
  obtain ⟨k1, k2, k3⟩ := zeroOk_rep hzo w S φ
  have hn' := hn _ _ rfl
  have hzv : (zeroValue t).run P w = .ok z w := by
    unfold zeroValue
    rw [Sem.run_bind, run_typeInfo w h1]
    simp [hz]
  unfold Oper.wp execOp
  simp only [ho, Instr.alloc, Sem.run_bind, hzv, Result.andThen_ok, newVar, newRow, newObj, Sem.run, Sem.run_pure, Oper.upon_value]
  exact hk _ _ S _ (below_alloc w _) (fun _ h => h) (fun _ h => .inl h) (bound_alloc hb _) (newRel_alloc hb hn' (.var d.zero) z.cells t trivial (by simp only [Blk.full]; simpa using k1) (by simp only [Blk.cells, ← k1]; simp) (fun j x hj => by
      have := k3 j x hj
      rw [Array.getD_eq_getD_getElem?]
      simpa [List.getD_eq_getElem?_getD] using this))
    (.ptr (by simp [updPhi]) fun L hL hn => by simp [updPhi] at hL; subst hL; exact ⟨w.heap.size, rfl, rfl⟩)

end heads

/-- A CALL THAT LOOKS AT AND HANDS BACK PLAIN VALUES ALONE. -/
def PCall (P : Program) (f : FuncId) (args : List AV) (r : AV) : Prop := ACall P f args [] (.ret r) []

theorem hrel_nil {w : World} {S : Nat → Prop} (hb : ∀ b, S b → b < w.heap.size) : HRel w S Phi.nil [] :=
  ⟨fun _ _ => rfl, fun k h => by simp at h, fun k B h => by simp at h, fun k k' g L L' h => by simp [Phi.nil] at h, hb⟩

theorem trel_nil {w : World} {S : Nat → Prop} {φ : Phi} {vs : Array Value} {xs : List AV} (h : TRel w S φ vs xs) (hu : AV.underL 0 xs = true) : TRel w S Phi.nil vs xs :=
  ⟨h.1, fun j x hj => (h.2 j x hj).restrict (AV.underL_get hu j x hj) (fun k hk => by omega)⟩

theorem pcall_run {P : Program} {f : FuncId} {args : List AV} {r : AV} (hc : PCall P f args r) (hu : AV.underL 0 args = true) {w : World} {S : Nat → Prop} {φ : Phi} {vs : Array Value} (hb : ∀ b, S b → b < w.heap.size) (ht : TRel w S φ vs args) :
    Calls P f vs w (fun e w' => ∃ v S', e = .returned v ∧ Below w.heap.size w w' ∧ (∀ b, S b → S' b) ∧ (∀ b, S' b → S b ∨ w.heap.size ≤ b) ∧ (∀ b, S' b → b < w'.heap.size) ∧ Rep w' S' Phi.nil v r) :=
  (hc.2 w S Phi.nil vs (hrel_nil hb) (trel_nil ht hu)).mono fun e w' ⟨S', φ', h1, h2, h3⟩ => by
    cases e with
    | returned v =>
      refine ⟨v, S', rfl, h2.below, h2.step.s, fun b hb => ?_, h1.bound, ?_⟩
      · rcases h2.snew b hb with h | h | ⟨k, L, h, _⟩
        · exact .inl h
        · exact .inr h
        · simp [Phi.nil] at h
      · have : φ' = Phi.nil := funext fun k => h1.dom k (Nat.zero_le _)
        rw [← this]; exact h3
    | panicked c => exact h3.elim
    | outgrown => exact h3.elim

theorem head_call {P : Program} {o : Oper} {ρ : Operand → AV} {hp : AHeap} {fx : Operand} {xs : Array Operand} {ts : Array TypeId} {f : FuncId} {fs cs args : List AV} {r : AV} (ho : o.op = .call ⟨.value fx, xs, ts⟩) (hf : ρ fx = .fn f fs cs)
    (ha : fs ++ xs.toList.map ρ ++ cs = args) (hu : AV.underL 0 args = true) (hc : PCall P f args r) : AHead P o ρ hp r none := fun w S φ a next Q hl hb hev hn hk => by
  have hfx := hev fx (by simp [ho, Op.operands, Call.operands])
  rw [hf] at hfx
  obtain ⟨first, cap, hv, t1, t2⟩ := rep_fn_inv hfx
  have tx : TRel w S φ (xs.map a.eval) (xs.toList.map ρ) := ⟨by simp, fun j x hj => by
    simp only [List.getElem?_map, Array.getElem?_toList, Option.map_eq_some_iff] at hj
    obtain ⟨y, hy, rfl⟩ := hj
    have := hev y (by simp [ho, Op.operands, Call.operands]; exact .inr (Array.mem_of_getElem? hy))
    simpa [Array.getD_eq_getD_getElem?, hy] using this⟩
  have hargs : TRel w S φ (first ++ xs.map a.eval ++ cap) args := by rw [← ha]; exact trel_append (trel_append t1 tx) t2
  unfold Oper.wp execOp
  simp only [ho, resolve, hv, Deferred.ofValue, Sem.run_bind, Sem.run_pure, Result.andThen_ok, invoke, run_call hc.1]
  refine (pcall_run hc hu hb hargs).mono fun e w' ⟨v, S', he, h1, h2, h3, h4, h5⟩ => ?_
  subst he
  exact hk v w' S' φ h1 h2 h3 h4 rfl h5.ofNil

section rules
variable {P : Program} {T : TT} {B : Base} {Q : AExit → ASt → Prop} {st : ASt} {ops : Array Oper} {o : Oper} {rest : List Oper}

theorem rel_heap {S : Nat → Prop} {φ : Phi} {a : Act} {w w' : World} {S' : Nat → Prop} {φ' : Phi} {h' : AHeap} (hr : Rel B S φ st a w) (h1 : HRel w' S' φ' h') (h2 : Ext w S φ w' S' φ') : Rel B S' φ' { st with heap := h' } a w' :=
  ⟨h1, hr.tmps.step h2.step, hr.defs.step h2.step, hr.ext.trans h2⟩

theorem aops_head {x : AV} (hw : awanted ops st o = some true) (hh : AHead P o st.eval st.heap x none) (h : AOps P B ops Q rest (st.put o.dst x)) : AOps P B ops Q (o :: rest) st :=
  aops_step hw fun K hK S φ a w hr => hh w S φ a _ _ hr.heap.live hr.heap.bound (fun y _ => rel_eval (st := st) hr.tmps y) (fun _ _ h => by cases h) fun v w' S' φ' h1 h2 h3 h4 h5 h6 => by
    have e : φ' = φ := h5
    subst e
    obtain ⟨g1, g2⟩ := hrel_quiet hr.heap h1 h2 h3 h4
    exact ⟨S', φ', _, rel_put (rel_heap hr g1 g2) o.dst h6, hK _ h⟩

theorem aops_new {x : AV} {Bn : Blk} (hw : awanted ops st o = some true) (hh : AHead P o st.eval st.heap x (some (st.heap.length, Bn))) (h : AOps P B ops Q rest (({ st with heap := st.heap ++ [some Bn] } : ASt).put o.dst x)) : AOps P B ops Q (o :: rest) st :=
  aops_step hw fun K hK S φ a w hr => by
    have hn : φ st.heap.length = none := hr.heap.dom _ (Nat.le_refl _)
    refine hh w S φ a _ _ hr.heap.live hr.heap.bound (fun y _ => rel_eval (st := st) hr.tmps y) (fun k B' h => by cases h; exact hn) fun v w' S' φ' h1 h2 h3 h4 h5 h6 => ?_
    obtain ⟨g1, g2⟩ := hrel_slot (h' := st.heap ++ [some Bn]) hr.heap h1 h2 h3 h4 h5 hn (by simp) (by simp) (by simp) (fun j hj hlt => by
      simp only [List.length_append, List.length_singleton] at hlt
      exact .inl (List.getElem?_append_left (by omega)))
    exact ⟨S', φ', _, rel_put (rel_heap hr g1 g2) o.dst h6, hK _ h⟩

/-! ### stores -/
theorem splice_length {off : Nat} {vs cs : List AV} (h : off + vs.length ≤ cs.length) : (splice off vs cs).length = cs.length := by
  simp only [splice, List.length_append, List.length_take, List.length_drop]; omega

/-- The cells of a row behind a store into it. -/
theorem splice_rep {w : World} {S : Nat → Prop} {φ : Phi} {cur new : Array Value} {cs xs : List AV} {off : Nat} (hc : ∀ (j : Nat) (x : AV), cs[j]? = some x → Rep w S φ (cur.getD j Go.undef) x)
    (hx : ∀ (j : Nat) (x : AV), xs[j]? = some x → Rep w S φ (new.getD j Go.undef) x) (hl : new.size = xs.length) (hfit : off + xs.length ≤ cs.length) (hcs : cs.length ≤ cur.size) :
    ∀ (j : Nat) (x : AV), (splice off xs cs)[j]? = some x → Rep w S φ ((cur.toList.take off ++ new.toList ++ cur.toList.drop (off + new.toList.length)).toArray.getD j Go.undef) x := by
  intro j x hj
  simp only [splice] at hj
  have e : (cur.toList.take off ++ new.toList ++ cur.toList.drop (off + new.toList.length)).toArray.getD j Go.undef = if j < off then cur.getD j Go.undef else if j < off + new.size then new.getD (j - off) Go.undef else cur.getD j Go.undef := by
    simp only [Array.getD_eq_getD_getElem?, List.getElem?_toArray, Array.length_toList]
    split
    · rename_i h1
      rw [List.append_assoc, List.getElem?_append_left (by simp; omega), List.getElem?_take, if_pos h1]; simp
    · rename_i h1
      split
      · rename_i h2
        rw [List.append_assoc, List.getElem?_append_right (by simp; omega), List.getElem?_append_left (by simp; omega)]
        simp only [List.length_take, Array.length_toList]
        rw [Nat.min_eq_left (by omega)]; simp
      · rename_i h2
        rw [List.getElem?_append_right (by simp; omega), List.getElem?_drop]
        simp only [List.length_append, List.length_take, Array.length_toList]
        rw [Nat.min_eq_left (by omega), show off + new.size + (j - (off + new.size)) = j by omega]; simp
  rw [e]
  split
  · rename_i h1
    rw [List.append_assoc, List.getElem?_append_left (by simp; omega), List.getElem?_take, if_pos h1] at hj
    exact hc j x hj
  · rename_i h1
    split
    · rename_i h2
      rw [List.append_assoc, List.getElem?_append_right (by simp; omega), List.getElem?_append_left (by simp; omega)] at hj
      simp only [List.length_take] at hj
      rw [Nat.min_eq_left (by omega)] at hj
      exact hx _ x hj
    · rename_i h2
      rw [List.getElem?_append_right (by simp; omega), List.getElem?_drop] at hj
      simp only [List.length_append, List.length_take] at hj
      rw [Nat.min_eq_left (by omega), show off + xs.length + (j - (off + xs.length)) = j by omega] at hj
      exact hc j x hj

theorem run_storeAt (hT : TOk P T) {t : TypeId} {d : TD} (hd : T t = some d) {w : World} {g off : Nat} {v : Value} {cur : Array Value} {ty : TypeId} (hg : w.heap[g]? = some (.cells cur ty (0, 0))) (hl : v.cells.size = d.size) (h1 : ∀ u ∈ v.cells.toList, u.oneCell' = true) (hfit : off + d.size ≤ cur.size) :
    (Instr.storeAt t (.pointer (some ⟨g, off, none⟩)) v).run P w = .ok () (w.setRow g (cur.toList.take off ++ v.cells.toList ++ cur.toList.drop (off + v.cells.toList.length)).toArray) := by
  have hs := run_sizeT hT hd w
  have hst := run_storeCells_at P g off ty v.cells.toList 0 cur w hg (by simp; omega) h1
  simp only [Nat.add_zero] at hst
  simp only [Instr.storeAt, Instr.sureAddr, storeVar, Sem.run_bind, Sem.run_pure, Result.andThen_ok, hs, hl, ne_eq, not_true_eq_false, if_false]
  exact hst

theorem aops_store (hT : TOk P T) {t : TypeId} {d : TD} {p x : Operand} {k off : Nat} {cs : List AV} (hw : awanted ops st o = some true) (ho : o.op = .store t p x) (hd : T t = some d) (hp : st.eval p = .ptr k off) (hk : st.heap[k]? = some (some (.var cs)))
    (hl : (st.eval x).cellsOf.length = d.size) (hfit : off + d.size ≤ cs.length) (hs : (st.eval x).cellsOf.all (solid st.heap) = true)
    (h : AOps P B ops Q rest (({ st with heap := st.heap.set k (some (.var (splice off (st.eval x).cellsOf cs))) } : ASt).put o.dst .undef)) : AOps P B ops Q (o :: rest) st :=
  aops_step hw fun K hK S φ a w hr => by
    obtain ⟨k1, k2, k3⟩ := cells_rep hr.heap.live (rel_eval (st := st) hr.tmps x) hs
    have hpr := rel_eval (st := st) hr.tmps p
    rw [hp] at hpr
    obtain ⟨_, g, h1, h2⟩ := hr.heap.live k _ hk
    generalize hpv : a.eval p = pv at hpr
    cases hpr with
    | ptr hk' hv' =>
      obtain ⟨g', h3, rfl⟩ := hv' _ h1 rfl
      simp [Blk.loc] at h3
      subst h3
      obtain ⟨_, cur, ty, h4, h5, h6, h7⟩ := h2
      have h6' : cur.size = cs.length := h6
      have hrun := run_storeAt hT hd (off := off) h4 (k1.trans hl) k2 (by omega)
      have hcs : (splice off (st.eval x).cellsOf cs).length = cs.length := splice_length (by omega)
      have hsz : (cur.toList.take off ++ (a.eval x).cells.toList ++ cur.toList.drop (off + (a.eval x).cells.toList.length)).toArray.size = cur.size := by simp; omega
      obtain ⟨g1, g2⟩ := hrel_set hr.heap (B' := .var (splice off (st.eval x).cellsOf cs)) hk h1 rfl h4 (cs' := (cur.toList.take off ++ (a.eval x).cells.toList ++ cur.toList.drop (off + (a.eval x).cells.toList.length)).toArray)
        hsz trivial (by simp only [Blk.full, hcs]; rw [hsz]; exact h6) (by simp only [Blk.cells, hcs]; rw [hsz]; omega)
        (splice_rep h7 k3 k1 (by omega) (by omega))
      unfold Oper.wp execOp
      simp only [ho, hpv, Sem.run_bind, hrun, Result.andThen_ok, Sem.run_pure, Oper.upon_skip]
      exact ⟨S, _, _, rel_put (rel_heap hr g1 g2) o.dst .undef, hK _ h⟩

theorem flatten_set : ∀ (xs : List (List AV)) (sz i : Nat) (e e' : List AV), (∀ e ∈ xs, e.length = sz) → xs[i]? = some e → e'.length = sz → (xs.set i e').flatten = splice (i * sz) e' xs.flatten
  | [], _, _, _, _, _, h, _ => by simp at h
  | x :: xs, sz, 0, e, e', hsz, h, he => by
    have hx : x.length = sz := hsz x (by simp)
    simp [splice, he, ← hx]
  | x :: xs, sz, i + 1, e, e', hsz, h, he => by
    have hx : x.length = sz := hsz x (by simp)
    have ih := flatten_set xs sz i e e' (fun e he => hsz e (by simp [he])) (by simpa using h) he
    simp only [List.set_cons_succ, List.flatten_cons, ih, splice]
    rw [show (i + 1) * sz = x.length + i * sz by rw [hx, Nat.succ_mul]; omega, List.take_length_add_append, Nat.add_assoc, List.drop_length_add_append]
    simp

/-- A store into a row's element. -/
theorem aops_store_row (hT : TOk P T) {t e : TypeId} {d : TD} {p x : Operand} {k i off sz : Nat} {xs : List (List AV)} {el : List AV} (hw : awanted ops st o = some true) (ho : o.op = .store t p x) (hd : T t = some d) (hp : st.eval p = .rptr k xs.length i off) (hk : st.heap[k]? = some (some (.row xs sz e)))
    (hi : xs[i]? = some el) (hl : (st.eval x).cellsOf.length = d.size) (hfit : off + d.size ≤ el.length) (hs : (st.eval x).cellsOf.all (solid st.heap) = true)
    (h : AOps P B ops Q rest (({ st with heap := st.heap.set k (some (.row (xs.set i (splice off (st.eval x).cellsOf el)) sz e)) } : ASt).put o.dst .undef)) : AOps P B ops Q (o :: rest) st :=
  aops_step hw fun K hK S φ a w hr => by
    obtain ⟨k1, k2, k3⟩ := cells_rep hr.heap.live (rel_eval (st := st) hr.tmps x) hs
    have hpr := rel_eval (st := st) hr.tmps p
    rw [hp] at hpr
    obtain ⟨hev, g, h1, h2⟩ := hr.heap.live k _ hk
    generalize hpv : a.eval p = pv at hpr
    cases hpr with
    | rptr hk' hle hv' =>
      obtain ⟨g', h3, rfl⟩ := hv' _ h1 rfl
      simp [Blk.loc] at h3
      subst h3
      obtain ⟨_, cur, ty, h4, h5, h6, h7⟩ := h2
      have hil : i < xs.length := (List.getElem?_eq_some_iff.1 hi).1
      have hel : el.length = sz := hev el (List.mem_of_getElem? hi)
      have hfl : xs.flatten.length = xs.length * sz := by
        have : ∀ (l : List (List AV)), (∀ e ∈ l, e.length = sz) → l.flatten.length = l.length * sz := fun l => by
          induction l with
          | nil => intro _; simp
          | cons y l ih => intro hy; simp only [List.flatten_cons, List.length_append, List.length_cons, Nat.succ_mul, ih (fun e he => hy e (by simp [he])), hy y (by simp)]; omega
        exact this xs hev
      have hmul : i * sz + sz ≤ xs.flatten.length := by rw [hfl, ← Nat.succ_mul]; exact Nat.mul_le_mul_right _ hil
      have h5' : xs.flatten.length ≤ cur.size := h5
      have hrun := run_storeAt hT hd (off := i * sz + off) h4 (k1.trans hl) k2 (by omega)
      have hsp : (splice off (st.eval x).cellsOf el).length = sz := by rw [splice_length (by omega), hel]
      have hev' : ∀ y ∈ xs.set i (splice off (st.eval x).cellsOf el), y.length = sz := fun y hy => by
        rcases List.mem_or_eq_of_mem_set hy with hy | rfl
        · exact hev y hy
        · exact hsp
      have hcells : (xs.set i (splice off (st.eval x).cellsOf el)).flatten = splice (i * sz + off) (st.eval x).cellsOf xs.flatten := by
        rw [flatten_set xs sz i el _ hev hi hsp]
        apply List.ext_getElem?
        intro j
        simp only [splice, List.getElem?_append, List.length_append, List.length_take, List.length_drop, List.getElem?_take, List.getElem?_drop, hel]
        have hget : ∀ q, q < sz → el[q]? = xs.flatten[i * sz + q]? := fun q hq => (flatten_get xs sz i q el hev hi (by omega)).symm
        generalize (st.eval x).cellsOf = vs at *
        repeat' split
        all_goals first | rfl | omega | (rw [hget _ (by omega)]; congr 1; omega) | (congr 1; omega) | skip
      have hsz : (cur.toList.take (i * sz + off) ++ (a.eval x).cells.toList ++ cur.toList.drop (i * sz + off + (a.eval x).cells.toList.length)).toArray.size = cur.size := by simp; omega
      obtain ⟨g1, g2⟩ := hrel_set hr.heap (B' := .row (xs.set i (splice off (st.eval x).cellsOf el)) sz e) hk h1 (by simp [Blk.loc, Blk.n, Blk.sz, Blk.e]) h4 (cs' := (cur.toList.take (i * sz + off) ++ (a.eval x).cells.toList ++ cur.toList.drop (i * sz + off + (a.eval x).cells.toList.length)).toArray)
        hsz hev' (by
          obtain ⟨q1, cap, q2, q3⟩ := h6
          exact ⟨q1, cap, by simpa using q2, hsz.trans q3⟩) (by simp only [Blk.cells, hcells]; rw [splice_length (by omega), hsz]; exact h5)
        (by
          simp only [Blk.cells, hcells]
          exact splice_rep h7 k3 k1 (by omega) h5)
      unfold Oper.wp execOp
      simp only [ho, hpv, Blk.loc, Blk.sz, Sem.run_bind, hrun, Result.andThen_ok, Sem.run_pure, Oper.upon_skip]
      exact ⟨S, _, _, rel_put (rel_heap hr g1 g2) o.dst .undef, hK _ h⟩

end rules
end Go.Proofs.Ytpckfpahmnhfcaa.G
