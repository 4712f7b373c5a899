/- The ghost machine: windows: slices into a block of the call's own whose room is known; copy, clear, appends in place. -/
import Derived.Test.YtpckfpahmnhfcaaG14
import Derived.Lib.AppendZerosOnto
import Derived.Lib.Overlaps
namespace Go.Proofs.Ytpckfpahmnhfcaa.G
open Go Go.RowKit
set_option linter.unusedVariables false
set_option linter.unusedSimpArgs false

/-! ### a row becomes a variable whose room is known -/
theorem hrel_move {w : World} {S : Nat → Prop} {φ : Phi} {h : AHeap} (hh : HRel w S φ h) {k g : Nat} {Bk B' : Blk} (hk : h[k]? = some (some Bk)) (q1 : φ k = some (some (Bk.loc (some g)))) (hev : B'.even)
    {cs : Array Value} {ty : TypeId} (hw : w.heap[g]? = some (.cells cs ty (0, 0))) (hfull : B'.full cs.size ty) (hlen : B'.cells.length ≤ cs.size) (hc : ∀ (j : Nat) (x : AV), B'.cells[j]? = some x → Rep w S φ (cs.getD j Go.undef) x) :
    ∃ φ', φ' h.length = some (some (B'.loc (some g))) ∧ HRel w S φ' (h.set k none ++ [some B']) ∧ Ext w S φ w S φ' := by
  have hkl : k < h.length := (List.getElem?_eq_some_iff.1 hk).1
  have hn : φ h.length = none := hh.dom _ (Nat.le_refl _)
  obtain ⟨φ', hφ⟩ : ∃ φ' : Phi, φ' = fun j => if j = k then some none else if j = h.length then some (some (B'.loc (some g))) else φ j := ⟨_, rfl⟩
  have ek : φ' k = some none := by simp [hφ]
  have en : φ' h.length = some (some (B'.loc (some g))) := by
    have : h.length ≠ k := by omega
    simp [hφ, this]
  have eo : ∀ j, j ≠ k → j ≠ h.length → φ' j = φ j := fun j h1 h2 => by simp [hφ, h1, h2]
  have hnS : ¬ S g := by
    obtain ⟨_, g', h1, h2⟩ := hh.live k Bk hk
    rw [q1] at h1; cases h1
    exact h2.1
  have hst : Step w S φ w S φ' := ⟨fun _ h => h, fun _ _ => rfl, fun j => by
    by_cases h1 : j = k
    · subst h1; exact .inr (.inr (.inl ek))
    · by_cases h2 : j = h.length
      · subst h2; exact .inl hn
      · exact .inr (.inl (eo j h1 h2)), fun _ _ _ _ _ _ _ cs _ h => ⟨cs, h, rfl⟩⟩
  refine ⟨φ', en, ⟨fun j hj => ?_, fun j hj => ?_, fun j B1 hj => ?_, fun j j' g1 L L' h1 h2 e1 e2 => ?_, hh.bound⟩, ⟨hst, rfl, rfl, rfl, Nat.le_refl _, fun _ _ _ => rfl, fun b hb => .inl hb, fun j g1 L hj hg1 => ?_⟩⟩
  · simp only [List.length_append, List.length_set, List.length_singleton] at hj
    rw [eo j (by omega) (by omega)]; exact hh.dom j (by omega)
  · by_cases h1 : j = k
    · subst h1; exact .inr ek
    · rcases Nat.lt_or_ge j h.length with hlt | hge
      · rw [List.getElem?_append_left (by simpa using hlt), List.getElem?_set_ne (fun e => h1 e.symm)] at hj
        rw [eo j h1 (by omega)]; exact hh.dead j hj
      · rw [List.getElem?_append_right (by simpa using hge)] at hj
        have : j - (h.set k none).length = 0 := by have := (List.getElem?_eq_some_iff.1 hj).1; simp at this; simp; omega
        rw [this] at hj; simp at hj
  · rcases Nat.lt_or_ge j h.length with hlt | hge
    · rw [List.getElem?_append_left (by simpa using hlt)] at hj
      by_cases h1 : j = k
      · subst h1; rw [List.getElem?_set_self hkl] at hj; simp at hj
      · rw [List.getElem?_set_ne (fun e => h1 e.symm)] at hj
        obtain ⟨p1, g1, p2, p3⟩ := hh.live j B1 hj
        refine ⟨p1, g1, by rw [eo j h1 (by omega)]; exact p2, ?_⟩
        cases g1 with
        | none => exact p3
        | some g1 =>
          obtain ⟨a', cs1, ty1, b, c, d, e'⟩ := p3
          exact ⟨a', cs1, ty1, b, c, d, fun q x hq => (e' q x hq).step hst⟩
    · rw [List.getElem?_append_right (by simpa using hge)] at hj
      have h0 : j - (h.set k none).length = 0 := by have := (List.getElem?_eq_some_iff.1 hj).1; simp at this; simp; omega
      rw [h0] at hj
      simp only [List.getElem?_cons_zero, Option.some.injEq] at hj
      subst hj
      have hjl : j = h.length := by simp at h0; omega
      subst hjl
      exact ⟨hev, some g, en, hnS, cs, ty, hw, hlen, hfull, fun q x hq => (hc q x hq).step hst⟩
  · have look : ∀ (j : Nat) (L : Loc), φ' j = some (some L) → L.g = some g1 → ∃ i L0, φ i = some (some L0) ∧ L0.g = some g1 ∧ (i = j ∨ (i = k ∧ j = h.length)) := fun j L hj hg => by
      by_cases h1 : j = k
      · subst h1; rw [ek] at hj; simp at hj
      · by_cases h2 : j = h.length
        · subst h2; rw [en] at hj; cases hj
          exact ⟨k, _, q1, by simpa [Blk.loc] using hg, .inr ⟨rfl, rfl⟩⟩
        · exact ⟨j, L, by rw [← eo j h1 h2]; exact hj, hg, .inl rfl⟩
    obtain ⟨i, L0, a1, a2, a3⟩ := look j L h1 e1
    obtain ⟨i', L0', b1, b2, b3⟩ := look j' L' h2 e2
    have hii := hh.inj i i' g1 L0 L0' a1 b1 a2 b2
    rcases a3 with rfl | ⟨rfl, rfl⟩ <;> rcases b3 with rfl | ⟨rfl, rfl⟩
    · exact hii
    · exfalso; subst hii; rw [ek] at h1; simp at h1
    · exfalso; subst hii; rw [ek] at h2; simp at h2
    · rfl
  · by_cases h1 : j = k
    · subst h1; rw [ek] at hj; simp at hj
    · by_cases h2 : j = h.length
      · subst h2; rw [en] at hj; cases hj
        exact .inr ⟨k, _, q1, by simpa [Blk.loc] using hg1⟩
      · exact .inr ⟨j, L, by rw [← eo j h1 h2]; exact hj, hg1⟩

theorem rel_learn {B : Base} {S : Nat → Prop} {φ : Phi} {a : Act} {w : World} {ts : List AV} {h : AHeap} {ds : List (FuncId × List AV)} {i k sz : Nat} {e : TypeId} {xs : List (List AV)} (hr : Rel B S φ ⟨ts, h, ds⟩ a w) (hi : ts[i]? = some (.own k xs.length)) (hk : h[k]? = some (some (.row xs sz e))) (hne : xs ≠ []) :
    ∃ c φ', xs.length ≤ c ∧ Rel B S φ' ⟨ts.set i (.win h.length 0 xs.length c), h.set k none ++ [some (.var (xs.flatten ++ List.replicate ((c - xs.length) * sz) .any))], ds⟩ a w := by
  obtain ⟨hev, g, q1, q2⟩ := hr.heap.live k _ hk
  have hv := hr.tmps.2 i _ hi
  generalize hvv : a.tmps.getD i Go.undef = v at hv
  cases hv with
  | own hk' hle hat =>
    have hat := hat _ q1 rfl
    cases g with
    | none => obtain ⟨_, _, h⟩ := q2; cases h; exact absurd rfl hne
    | some g =>
      obtain ⟨cap, cs, hval, c1, c2, c3⟩ := hat
      obtain ⟨hnS, cs', ty, h4, h5, h6, h7⟩ := q2
      simp only [Blk.loc, Blk.e, Blk.n, Blk.sz] at c1 c2 c3 hval
      rw [h4] at c2; cases c2
      have hfl : xs.flatten.length = xs.length * sz := flatten_len hev
      have hsz : (xs.flatten ++ List.replicate ((cap - xs.length) * sz) AV.any).length = cs.size := by
        rw [List.length_append, List.length_replicate, hfl, c3, ← Nat.add_mul]; congr 1; omega
      obtain ⟨φ', e1, g1, g2⟩ := hrel_move hr.heap (B' := .var (xs.flatten ++ List.replicate ((cap - xs.length) * sz) .any)) hk q1 trivial h4 (by simp only [Blk.full]; exact hsz.symm) (by simp only [Blk.cells]; omega) (fun j x hj => by
        simp only [Blk.cells] at hj
        rcases Nat.lt_or_ge j xs.flatten.length with hlt | hge
        · rw [List.getElem?_append_left hlt] at hj; exact h7 j x hj
        · rw [List.getElem?_append_right hge, List.getElem?_replicate] at hj
          split at hj
          · cases hj; exact .any
          · cases hj)
      refine ⟨cap, φ', c1, g1, ⟨by rw [List.length_set]; exact hr.tmps.1, fun j x hj => ?_⟩, hr.defs.step g2.step, hr.ext.trans g2⟩
      rw [List.getElem?_set] at hj
      split at hj
      · rename_i hij
        subst hij
        split at hj
        · cases hj
          rw [hvv, hval]
          exact .win (by rw [e1]; simp) (fun L hL _ => by rw [e1] at hL; cases hL; exact ⟨g, rfl, rfl⟩)
        · cases hj
      · exact (hr.tmps.2 j x hj).step g2.step

/-! ### what is read -/
def Src (hp : AHeap) (y : AV) (m : Nat) (cells : List AV) : Prop := ∀ w S φ v, HLive w S φ hp → Rep w S φ v y → ∃ A c, v = .slice A m c ∧ (m ≠ 0 → ∃ b off, A = some ⟨b, off, none⟩ ∧ ∀ (j : Nat) (x : AV), cells[j]? = some x → ∃ u, w.cell? ⟨b, off + j, none⟩ = some u ∧ Rep w S φ u x)
theorem src_of {hp : AHeap} {y : AV} {ys : List (List AV)} (h : srcOf hp y = some ys) : Src hp y ys.length ys.flatten := fun w S φ v hl hv => by
  obtain ⟨A, c, h1, _, h2⟩ := src_rep hl hv h
  exact ⟨A, c, h1, fun hm => h2 (fun e => hm (by simp [e]))⟩
theorem src_win {hp : AHeap} {k off len cap n : Nat} {cs : List AV} (hk : hp[k]? = some (some (.var cs))) : Src hp (.win k off len cap) len ((cs.drop off).take n) := fun w S φ v hl hv => by
  obtain ⟨_, g, q1, q2⟩ := hl k _ hk
  cases hv with
  | win hk' hv =>
    obtain ⟨g', e1, rfl⟩ := hv _ q1 rfl
    simp only [Blk.loc] at e1
    subst e1
    obtain ⟨_, us, ty, h4, h5, h6, h7⟩ := q2
    refine ⟨_, _, rfl, fun _ => ⟨g', off, rfl, fun j x hj => ?_⟩⟩
    rw [List.getElem?_take] at hj
    split at hj
    · rw [List.getElem?_drop] at hj
      have hlt : off + j < us.size := Nat.lt_of_lt_of_le (List.getElem?_eq_some_iff.1 hj).1 h5
      exact ⟨us.getD (off + j) Go.undef, by simp [World.cell?, h4, hlt], h7 _ x hj⟩
    · cases hj

/-- The values of cells that are read. -/
theorem src_vals {w : World} {S : Nat → Prop} {φ : Phi} {hp : AHeap} (hl : HLive w S φ hp) {cells : List AV} {b off : Nat} (h : ∀ (j : Nat) (x : AV), cells[j]? = some x → ∃ u, w.cell? ⟨b, off + j, none⟩ = some u ∧ Rep w S φ u x) (hs : ∀ x ∈ cells, solid hp x = true) :
    ∃ vs : List Value, vs.length = cells.length ∧ (∀ (j : Nat) (u : Value), vs[j]? = some u → w.cell? ((⟨b, off, none⟩ : Addr).add j) = some u) ∧ (∀ u ∈ vs, u.oneCell' = true) ∧ ∀ (j : Nat) (x : AV), cells[j]? = some x → Rep w S φ (vs.getD j Go.undef) x := by
  refine ⟨(List.range cells.length).map fun j => (w.cell? ⟨b, off + j, none⟩).getD Go.undef, by simp, fun j u hj => ?_, fun u hu => ?_, fun j x hj => ?_⟩
  · simp only [List.getElem?_map, Option.map_eq_some_iff] at hj
    obtain ⟨q, hq, rfl⟩ := hj
    obtain ⟨hlt, hq'⟩ := List.getElem?_eq_some_iff.1 hq
    simp at hq'
    subst hq'
    obtain ⟨u, h1, _⟩ := h j _ (List.getElem?_eq_getElem (by simpa using hlt))
    rw [addr_add, h1]; rfl
  · obtain ⟨q, hq, rfl⟩ := List.mem_map.1 hu
    have hlt := List.mem_range.1 hq
    obtain ⟨u, h1, h2⟩ := h q _ (List.getElem?_eq_getElem hlt)
    rw [h1]; exact solid_one hl h2 (hs _ (List.getElem_mem hlt))
  · obtain ⟨u, h1, h3⟩ := h j x hj
    have hlt := (List.getElem?_eq_some_iff.1 hj).1
    have : ((List.range cells.length).map fun j => (w.cell? ⟨b, off + j, none⟩).getD Go.undef).getD j Go.undef = u := by
      simp only [List.getD_eq_getElem?_getD, List.getElem?_map, List.getElem?_range hlt, Option.map_some, h1]; rfl
    rw [this]; exact h3

theorem run_copy_rows {P : Program} (w : World) (dT sT ty elem : TypeId) (size : Nat) (g o dLen dCap : Nat) (A : Option Addr) (sLen sCap : Nat) (cur : Array Value) (t : TypeId) (cs : List Value)
    (hu : P.underlying dT = some (.slice elem)) (hs : (P.info? elem).map (·.size) = some size) (hg : w.heap[g]? = some (.cells cur t (0, 0))) (hn : cs.length = Nat.min sLen dLen * size)
    (hsrc : sLen ≠ 0 → ∃ a, A = some a ∧ ∀ j v, cs[j]? = some v → w.cell? (a.add j) = some v) (hfit : o + cs.length ≤ cur.size) (h1 : ∀ v ∈ cs, v.oneCell' = true) :
    (Builtin.copy_ #[dT, sT] ty #[.slice (some ⟨g, o, none⟩) dLen dCap, .slice A sLen sCap]).run P w =
      .ok (goInt (Nat.min sLen dLen)) (w.setRow g (cur.toList.take o ++ cs ++ cur.toList.drop (o + cs.length)).toArray) := by
  have hst := run_storeCells_at P g o t cs 0 cur w hg (by simpa using hfit) h1
  cases hq : P.info? elem with
  | none => simp [hq] at hs
  | some i =>
    have hi : i.size = size := by simpa [hq] using hs
    by_cases hz : sLen = 0
    · subst hz
      have hm : Nat.min 0 dLen = 0 := Nat.zero_min _
      have hc0 : cs = [] := List.eq_nil_of_length_eq_zero (by rw [hn, hm, Nat.zero_mul])
      subst hc0
      have hl0 : ∀ (x : Addr), (loadCells x 0).run P w = .ok #[] w := fun x => by simpa using run_loadCells_list (P := P) w x [] (by simp)
      simp at hst
      cases A <;> simp [Builtin.copy_, run_underlying hu, Builtin.lenOf, Builtin.firstCells, sizeOf, typeInfo, hq, hi, hl0, hm, hst]
    · obtain ⟨a, rfl, hcell⟩ := hsrc hz
      have hl := run_loadCells_list (P := P) w a cs hcell
      rw [hn] at hl
      simp at hst
      simp [Builtin.copy_, run_underlying hu, Builtin.lenOf, Builtin.firstCells, sizeOf, typeInfo, hq, hi, hl, hst]

section rules
variable {P : Program} {T : TT} {B : Base} {Q : AExit → ASt → Prop} {st : ASt} {ops : Array Oper} {o : Oper} {rest : List Oper} {ts ts' : List AV} {hp hp' : AHeap} {ds : List (FuncId × List AV)}

theorem c_learn {c : Code} (i k sz : Nat) {e : TypeId} {xs : List (List AV)} (hi : ts[i]? = some (.own k xs.length)) (hk : hp[k]? = some (some (.row xs sz e))) (hne : xs ≠ [])
    (h : ∀ c', xs.length ≤ c' → AWp P B c Q ⟨ts.set i (.win hp.length 0 xs.length c'), hp.set k none ++ [some (.var (xs.flatten ++ List.replicate ((c' - xs.length) * sz) .any))], ds⟩) : AWp P B c Q ⟨ts, hp, ds⟩ := fun S φ a w hr => by
  obtain ⟨c', φ', h1, h2⟩ := rel_learn hr hi hk hne
  exact h c' h1 S φ' a w h2

theorem splice_set {w : World} {S : Nat → Prop} {φ : Phi} {h : AHeap} (hh : HRel w S φ h) {k g off : Nat} {cs xs : List AV} (hk : h[k]? = some (some (.var cs))) (h1 : φ k = some (some ((Blk.var cs).loc (some g)))) {cur : Array Value} {ty : TypeId} (h4 : w.heap[g]? = some (.cells cur ty (0, 0)))
    (h6 : cur.size = cs.length) (h7 : ∀ (j : Nat) (x : AV), cs[j]? = some x → Rep w S φ (cur.getD j Go.undef) x) {vs : List Value} (hl : vs.length = xs.length) (hv : ∀ (j : Nat) (x : AV), xs[j]? = some x → Rep w S φ (vs.getD j Go.undef) x) (hfit : off + xs.length ≤ cs.length) :
    HRel (w.setRow g (cur.toList.take off ++ vs ++ cur.toList.drop (off + vs.length)).toArray) S φ (h.set k (some (.var (splice off xs cs)))) ∧ Ext w S φ (w.setRow g (cur.toList.take off ++ vs ++ cur.toList.drop (off + vs.length)).toArray) S φ := by
  have hcs : (splice off xs cs).length = cs.length := splice_length (by omega)
  have hsz : (cur.toList.take off ++ vs ++ cur.toList.drop (off + vs.length)).toArray.size = cur.size := by simp; omega
  refine hrel_set hh (B' := .var (splice off xs cs)) hk h1 rfl h4 hsz trivial (by simp only [Blk.full, hcs]; rw [hsz]; exact h6) (by simp only [Blk.cells, hcs]; rw [hsz]; omega) ?_
  have := splice_rep (w := w) (S := S) (φ := φ) (cur := cur) (new := vs.toArray) (cs := cs) (xs := xs) (off := off) h7 (fun j x hj => by
    have := hv j x hj
    simpa [List.getD_eq_getElem?_getD] using this) (by simpa using hl) hfit (by omega)
  simp only [Blk.cells]
  simpa using this

theorem aops_copy (hT : TOk P T) {t t' e : TypeId} {d ed : TD} {x y : Operand} {k off len cap m : Nat} {cs src : List AV} (hw : awanted ops st o = some true) (ho : o.op = .call ⟨.builtin .copy, #[x, y], #[t, t']⟩) (hd : T t = some d) (hk : d.kind = .slice e) (hed : T e = some ed)
    (hx : st.eval x = .win k off len cap) (hb : st.heap[k]? = some (some (.var cs))) (hs : Src st.heap (st.eval y) m src) (hsl : src.length = Nat.min m len * ed.size) (hsol : ∀ z ∈ src, solid st.heap z = true) (hfit : off + src.length ≤ cs.length)
    (h : AOps P B ops Q rest (({ st with heap := st.heap.set k (some (.var (splice off src cs))) } : ASt).put o.dst (.int .i64 (Nat.min m len : Nat)))) : AOps P B ops Q (o :: rest) st :=
  aops_step hw fun K hK S φ a w hr => by
    obtain ⟨it, ut, h1, h2, h3, _, h5, _⟩ := hT.get hd
    rw [hk] at h5
    rw [kind_slice h5] at h2
    obtain ⟨i, ut', g1, g2, g3, g4, g5, z, gz, gzo, gzl⟩ := hT.get hed
    have e1 := rel_eval (st := st) hr.tmps x
    have e2 := rel_eval (st := st) hr.tmps y
    rw [hx] at e1
    obtain ⟨A, c, hyv, hyc⟩ := hs w S φ _ hr.heap.live e2
    obtain ⟨_, g, q1, q2⟩ := hr.heap.live k _ hb
    generalize hxv : a.eval x = v at e1
    cases e1 with
    | win hk' hv =>
      obtain ⟨g', e1, rfl⟩ := hv _ q1 rfl
      simp only [Blk.loc] at e1
      subst e1
      obtain ⟨_, cur, ty, h4, h5', h6, h7⟩ := q2
      have h6' : cur.size = cs.length := h6
      obtain ⟨vs, l1, l2, l3, l4⟩ : ∃ vs : List Value, vs.length = src.length ∧ (m ≠ 0 → ∃ a, A = some a ∧ ∀ (j : Nat) (u : Value), vs[j]? = some u → w.cell? (a.add j) = some u) ∧ (∀ u ∈ vs, u.oneCell' = true) ∧ ∀ (j : Nat) (x : AV), src[j]? = some x → Rep w S φ (vs.getD j Go.undef) x := by
        by_cases hm : m = 0
        · have : src = [] := List.eq_nil_of_length_eq_zero (by rw [hsl, hm]; simp)
          subst this
          exact ⟨[], rfl, fun h => absurd hm h, by simp, fun j x h => by simp at h⟩
        · obtain ⟨b, off', rfl, hcell⟩ := hyc hm
          obtain ⟨vs, l1, l2, l3, l4⟩ := src_vals hr.heap.live hcell hsol
          exact ⟨vs, l1, fun _ => ⟨_, rfl, l2⟩, l3, l4⟩
      have hrun := run_copy_rows (P := P) w t t' o.type e i.size g' off len cap A m c cur ty vs h2 (by rw [g1]; rfl) h4 (by rw [l1, hsl, g3]) l2 (by rw [l1, h6']; exact hfit) l3
      obtain ⟨p1, p2⟩ := splice_set hr.heap hb q1 h4 h6' h7 l1 l4 hfit
      unfold Oper.wp execOp
      simp only [ho, resolve, invoke, builtin, Sem.run_bind, Sem.run_pure, Result.andThen_ok, List.map_toArray, List.map_cons, List.map_nil, hxv, hyv, hrun, Oper.upon_value]
      exact ⟨S, _, _, rel_put (rel_heap hr p1 p2) o.dst (.int .i64 _), hK _ h⟩

theorem d_copy (hT : TOk P T) {t t' e : TypeId} {d ed : TD} {x y : Operand} {k off len cap m : Nat} {cs src : List AV} (hw : awantedL ops ts o = some true) (ho : o.op = .call ⟨.builtin .copy, #[x, y], #[t, t']⟩) (hd : T t = some d) (hk : d.kind = .slice e) (hed : T e = some ed)
    (hx : evalL ts x = .win k off len cap) (hb : hp[k]? = some (some (.var cs))) (hs : Src hp (evalL ts y) m src) (hsl : src.length = Nat.min m len * ed.size) (hsol : ∀ z ∈ src, solid hp z = true) (hfit : off + src.length ≤ cs.length)
    (hh : hp.set k (some (.var (splice off src cs))) = hp') (ht : putL ts o.dst (.int .i64 (Nat.min m len : Nat)) = ts') (h : AOps P B ops Q rest ⟨ts', hp', ds⟩) : AOps P B ops Q (o :: rest) ⟨ts, hp, ds⟩ := by
  refine aops_copy (st := ⟨ts, hp, ds⟩) hT hw ho hd hk hed hx hb hs hsl hsol hfit ?_
  subst hh; subst ht
  cases hd : o.dst <;> (simp only [putL, hd] at h; simp only [ASt.put]; exact h)

/-! ### numbers and parts of a window -/
theorem head_len_win {ρ : Operand → AV} (hT : TOk P T) {t e : TypeId} {d : TD} {x : Operand} {k off len cap : Nat} {cs : List AV} (ho : o.op = .call ⟨.builtin .len, #[x], #[t]⟩) (hd : T t = some d) (hk : d.kind = .slice e) (hx : ρ x = .win k off len cap) (hb : hp[k]? = some (some (.var cs))) : AHead P o ρ hp (.int .i64 len) none := head_ro fun w S φ a hl hev => by
  have e1 := hev x (by simp [ho, Op.operands, Call.operands])
  rw [hx] at e1
  obtain ⟨it, ut, h1, h2, h3, _, h5, _⟩ := hT.get hd
  rw [hk] at h5
  rw [kind_slice h5] at h2
  obtain ⟨_, g, q1, q2⟩ := hl k _ hb
  generalize hxv : a.eval x = v at e1
  cases e1 with
  | win hk' hv =>
    obtain ⟨g', e1, rfl⟩ := hv _ q1 rfl
    refine ⟨.int .i64 len, ?_, .int _ _⟩
    unfold execOp
    simp only [ho, resolve, invoke, builtin, Sem.run_bind, Sem.run_pure, Result.andThen_ok, List.map_toArray, List.map_cons, List.map_nil, hxv]
    simp [Builtin.len_, run_underlying h2, goInt]

theorem head_cap_win {ρ : Operand → AV} (hT : TOk P T) {t e : TypeId} {d : TD} {x : Operand} {k off len cap : Nat} {cs : List AV} (ho : o.op = .call ⟨.builtin .cap, #[x], #[t]⟩) (hd : T t = some d) (hk : d.kind = .slice e) (hx : ρ x = .win k off len cap) (hb : hp[k]? = some (some (.var cs))) : AHead P o ρ hp (.int .i64 cap) none := head_ro fun w S φ a hl hev => by
  have e1 := hev x (by simp [ho, Op.operands, Call.operands])
  rw [hx] at e1
  obtain ⟨it, ut, h1, h2, h3, _, h5, _⟩ := hT.get hd
  rw [hk] at h5
  rw [kind_slice h5] at h2
  obtain ⟨_, g, q1, q2⟩ := hl k _ hb
  generalize hxv : a.eval x = v at e1
  cases e1 with
  | win hk' hv =>
    obtain ⟨g', e1, rfl⟩ := hv _ q1 rfl
    refine ⟨.int .i64 cap, ?_, .int _ _⟩
    unfold execOp
    simp only [ho, resolve, invoke, builtin, Sem.run_bind, Sem.run_pure, Result.andThen_ok, List.map_toArray, List.map_cons, List.map_nil, hxv]
    simp [Builtin.cap_, run_underlying h2, goInt]

theorem run_slice2 {w : World} {S : Nat → Prop} {φ : Phi} {ρ : Operand → AV} {a : Act} (hT : TOk P T) {t e : TypeId} {d ed : TD} {lo hi : Option Operand} {len cap : Nat} {l h : Int} {A : Option Addr} (hd : T t = some d) (hk : d.kind = .slice e) (hed : T e = some ed) (hev1 : ∀ y, lo = some y → Rep w S φ (a.eval y) (ρ y)) (hev2 : ∀ y, hi = some y → Rep w S φ (a.eval y) (ρ y))
    (hlo : abnd ρ lo 0 = some l) (hhi : abnd ρ hi len = some h) (h0 : 0 ≤ l) (hlh : l ≤ h) (hhl : h ≤ cap) : (Instr.sliceAt t (.slice A len cap) (lo.map a.eval) (hi.map a.eval) (Option.map a.eval none)).run P w = .ok (.slice (if cap = l.toNat then A else A.map (·.add (l.toNat * ed.size))) (h.toNat - l.toNat) (cap - l.toNat)) w := by
  obtain ⟨it, ut, h1, h2, h3, _, h5, _⟩ := hT.get hd
  rw [hk] at h5
  rw [kind_slice h5] at h2
  have hs := run_sizeT hT hed w
  have hb1 := run_bnd (a := a) hev1 hlo
  have hb2 := run_bnd (a := a) hev2 hhi
  have hbh : (Instr.sliceBounds true len cap (lo.map a.eval) (hi.map a.eval) none).run P w = .ok (l.toNat, h.toNat, cap) w := by
    have c1 : (0 : Int) ≤ h := by omega
    have c3 : l ≤ (h.toNat : Int) := by omega
    rcases hb2 with ⟨rfl, rfl⟩ | ⟨y, k, rfl, hy⟩ <;> rcases hb1 with ⟨rfl, rfl⟩ | ⟨z, k', rfl, hz⟩
    · simp [Instr.sliceBounds]
    · have := run_sliceBound (P := P) (w := w) (k := k') (code := .sliceB) h0 c3
      simp only [Int.toNat_natCast] at this
      simp [Instr.sliceBounds, hz, this]
    · simp [Instr.sliceBounds, hy, run_sliceBound (P := P) (w := w) (k := k) (code := .sliceAcap) c1 hhl]
    · simp [Instr.sliceBounds, hy, hz, run_sliceBound (P := P) (w := w) (k := k) (code := .sliceAcap) c1 hhl, run_sliceBound (P := P) (w := w) (k := k') (code := .sliceB) h0 c3]
  unfold Instr.sliceAt Instr.slice
  simp only [Sem.run_bind, run_underlying h2, Result.andThen_ok, Option.map_none, hbh, hs, Sem.run_pure]

theorem head_slice_win {ρ : Operand → AV} (hT : TOk P T) {t e : TypeId} {d ed : TD} {p : Operand} {lo hi : Option Operand} {k off len cap : Nat} {cs : List AV} {l h : Int} (ho : o.op = .slice t p lo hi none) (hd : T t = some d) (hk : d.kind = .slice e) (hed : T e = some ed)
    (hx : ρ p = .win k off len cap) (hb : hp[k]? = some (some (.var cs))) (hlo : abnd ρ lo 0 = some l) (hhi : abnd ρ hi len = some h) (h0 : 0 ≤ l) (hlh : l ≤ h) (hhl : h ≤ cap) (hlt : l < cap) : AHead P o ρ hp (.win k (off + l.toNat * ed.size) (h.toNat - l.toNat) (cap - l.toNat)) none := head_ro fun w S φ a hl hev => by
  have e1 := hev p (by simp [ho, Op.operands])
  rw [hx] at e1
  obtain ⟨_, g, q1, q2⟩ := hl k _ hb
  unfold execOp
  simp only [ho]
  generalize a.eval p = v at e1
  cases e1 with
  | win hk' hv =>
    obtain ⟨g', e1, rfl⟩ := hv _ q1 rfl
    simp only [Blk.loc] at e1
    subst e1
    have hrun := run_slice2 (w := w) (S := S) (φ := φ) (ρ := ρ) (a := a) (A := some ⟨g', off, none⟩) hT hd hk hed (fun y hy => hev y (by simp [ho, Op.operands, hy])) (fun y hy => hev y (by simp [ho, Op.operands, hy])) hlo hhi h0 hlh hhl
    refine ⟨_, by rw [Sem.run_bind, hrun, Result.andThen_ok, Sem.run_pure], ?_⟩
    rw [if_neg (by omega)]
    simp only [Option.map_some, addr_add]
    exact .win hk' (fun L hL hn => by rw [q1] at hL; cases hL; exact ⟨g', rfl, rfl⟩)

/-- A bound that is only looked at. -/
theorem head_slice_any {ρ : Operand → AV} (hT : TOk P T) {t e : TypeId} {d ed : TD} {p : Operand} {lo hi : Option Operand} {k sz : Nat} {xs : List (List AV)} {l h : Int} (ho : o.op = .slice t p lo hi none) (hd : T t = some d) (hk : d.kind = .slice e) (hed : T e = some ed)
    (hx : ρ p = .own k xs.length) (hb : hp[k]? = some (some (.row xs sz e))) (hlo : abnd ρ lo 0 = some l) (hhi : abnd ρ hi xs.length = some h) (h0 : 0 ≤ l) (hlh : l ≤ h) (hhl : h ≤ xs.length) : AHead P o ρ hp .any none := head_ro fun w S φ a hl hev => by
  have e1 := hev p (by simp [ho, Op.operands])
  rw [hx] at e1
  obtain ⟨_, g, q1, q2⟩ := hl k _ hb
  unfold execOp
  simp only [ho]
  generalize a.eval p = v at e1
  cases e1 with
  | own hk' hle hv =>
    have hat := hv _ q1 rfl
    obtain ⟨A, cap, rfl, hc⟩ : ∃ A cap, v = .slice A xs.length cap ∧ xs.length ≤ cap := by
      cases g with
      | none => obtain ⟨hn, A, rfl⟩ := hat; simp [Blk.loc, Blk.n] at hn; exact ⟨A, 0, by simp [hn], by simp [hn]⟩
      | some g => obtain ⟨cap, cs, rfl, c1, _⟩ := hat; exact ⟨_, cap, rfl, c1⟩
    have hrun := run_slice2 (w := w) (S := S) (φ := φ) (ρ := ρ) (a := a) (A := A) hT hd hk hed (fun y hy => hev y (by simp [ho, Op.operands, hy])) (fun y hy => hev y (by simp [ho, Op.operands, hy])) hlo hhi h0 hlh (Int.le_trans hhl (by exact_mod_cast hc))
    exact ⟨_, by rw [Sem.run_bind, hrun, Result.andThen_ok, Sem.run_pure], .any⟩

/-- A window is finished: nothing writes to it any more. -/
theorem sweak_freeze_win {h : AHeap} (i k off sz cap : Nat) {cs : List AV} {rows : List (List AV)} (hi : ts[i]? = some (.win k off rows.length cap)) (hk : h[k]? = some (some (.var cs))) (hrow : ∀ el ∈ rows, el.length = sz) (hcs : ∀ (j : Nat) (x : AV), rows.flatten[j]? = some x → cs[off + j]? = some x) (hcap : rows.length ≤ cap) (hu : ∀ el ∈ rows, AV.underL 0 el = true) :
    SWeak ⟨ts, h, ds⟩ ⟨ts.set i (.list rows), h.set k none, ds⟩ := fun B S φ a w _ hr => by
  obtain ⟨hev, g, q1, q2⟩ := hr.heap.live k _ hk
  cases g with
  | none => obtain ⟨_, _, h⟩ := q2; cases h
  | some g =>
    obtain ⟨g1, g2⟩ := hrel_give hr.heap hk q1
    obtain ⟨_, us, ty, h4, h5, h6, h7⟩ := q2
    refine ⟨_, _, g1, ⟨by rw [List.length_set]; exact hr.tmps.1, fun j x hj => ?_⟩, hr.defs.step g2.step, hr.ext.trans g2⟩
    rw [List.getElem?_set] at hj
    split at hj
    · rename_i hij
      subst hij
      split at hj
      · cases hj
        have := hr.tmps.2 i _ hi
        generalize a.tmps.getD i Go.undef = v at this
        cases this with
        | win hk' hv =>
          obtain ⟨g', e1, rfl⟩ := hv _ q1 rfl
          simp only [Blk.loc] at e1
          cases e1
          refine .list (sz := sz) (fun j => us.getD (off + j) Go.undef) (.inr rfl) rfl hcap hrow (fun j x hj => ?_) (fun j x hj => ?_)
          · have hlt : off + j < us.size := Nat.lt_of_lt_of_le (List.getElem?_eq_some_iff.1 (hcs j x hj)).1 h5
            simp [World.cell?, h4, hlt]
          · obtain ⟨el, hel, hx⟩ := List.mem_flatten.1 (List.mem_of_getElem? hj)
            obtain ⟨q, hq⟩ := List.mem_iff_getElem?.1 hx
            exact ((h7 _ x (hcs j x hj)).restrict (φ' := Phi.nil) (AV.underL_get (hu el hel) q x hq) (fun k hk => by omega)).step g2.step.toNil
      · cases hj
    · exact (hr.tmps.2 j x hj).step g2.step
end rules
end Go.Proofs.Ytpckfpahmnhfcaa.G
