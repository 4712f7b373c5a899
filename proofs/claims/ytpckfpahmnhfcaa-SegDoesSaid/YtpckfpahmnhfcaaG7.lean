/- The ghost machine: appends, ghost steps on states, structs compared. -/
import Derived.Test.YtpckfpahmnhfcaaG6
namespace Go.Proofs.Ytpckfpahmnhfcaa.G
open Go Go.RowKit
set_option linter.unusedVariables false
set_option linter.unusedSimpArgs false

theorem append_run {P : Program} {w : World} {S : Nat → Prop} {φ : Phi} {t ty e : TypeId} {i : TypeInfo} {z : Value} (ht : P.underlying t = some (.slice e)) (hi : P.info? e = some i) (hz : i.zero = some z) (hzs : z.cells.size = i.size)
    {xs ys : List (List AV)} {v : Value} {g0 : Option Nat} (hat : OwnAt w ((Blk.row xs i.size e).loc g0) v) (hblk : BlkAt w S φ (.row xs i.size e) g0) (hevx : ∀ el ∈ xs, el.length = i.size)
    {b off c : Nat} (hne : ys ≠ []) (hcy : ∀ (j : Nat) (x : AV), ys.flatten[j]? = some x → ∃ u, w.cell? ⟨b, off + j, none⟩ = some u ∧ u.oneCell' = true ∧ Rep w S φ u x) (hevy : ∀ el ∈ ys, el.length = i.size)
    (h63 : xs.length + ys.length ≤ 9223372036854775807) (hby : (xs.length + ys.length) * i.bytes ≤ 140737488355328) :
    ∃ w' g cap cs, (Builtin.append_ #[t, t] ty #[v, .slice (some ⟨b, off, none⟩) ys.length c]).run P w = .ok (.slice (some ⟨g, 0, none⟩) (xs.length + ys.length) cap) w' ∧ (g0 = some g ∨ w.heap.size ≤ g) ∧ w'.os = w.os ∧ w'.tape = w.tape ∧ w'.output = w.output ∧ w.heap.size ≤ w'.heap.size ∧
      (∀ b, b < w.heap.size → b ≠ g → w'.heap[b]? = w.heap[b]?) ∧ w'.heap[g]? = some (.cells cs e (0, 0)) ∧ xs.length + ys.length ≤ cap ∧ cs.size = cap * i.size ∧
      ∀ (j : Nat) (x : AV), (xs ++ ys).flatten[j]? = some x → ∃ v, Rep w S φ v x ∧ cs.getD j Go.undef = v := by
  have hfx := flatten_len hevx
  have hfy := flatten_len hevy
  have hm : 0 < ys.length := List.length_pos_iff.2 hne
  obtain ⟨news, hnl, hnc, hno, hnr⟩ : ∃ news : List Value, news.length = ys.length * i.size ∧ (∀ j u, news[j]? = some u → w.cell? ((⟨b, off, none⟩ : Addr).add j) = some u) ∧ (∀ u ∈ news, u.oneCell' = true) ∧ ∀ (j : Nat) (x : AV), ys.flatten[j]? = some x → Rep w S φ (news.getD j Go.undef) x := by
    refine ⟨(List.range ys.flatten.length).map fun j => (w.cell? ⟨b, off + j, none⟩).getD Go.undef, by simp only [List.length_map, List.length_range, hfy], fun j u hj => ?_, fun u hu => ?_, fun j x hj => ?_⟩
    · simp only [List.getElem?_map, Option.map_eq_some_iff] at hj
      obtain ⟨q, hq, rfl⟩ := hj
      obtain ⟨hlt, hq'⟩ := List.getElem?_eq_some_iff.1 hq
      simp at hq'
      subst hq'
      obtain ⟨u, h1, _⟩ := hcy j _ (List.getElem?_eq_getElem (by simpa using hlt))
      rw [addr_add, h1]; rfl
    · obtain ⟨q, hq, rfl⟩ := List.mem_map.1 hu
      obtain ⟨u, h1, h2, _⟩ := hcy q _ (List.getElem?_eq_getElem (List.mem_range.1 hq))
      rw [h1]; exact h2
    · obtain ⟨u, h1, _, h3⟩ := hcy j x hj
      have hlt := (List.getElem?_eq_some_iff.1 hj).1
      have : ((List.range ys.flatten.length).map fun j => (w.cell? ⟨b, off + j, none⟩).getD Go.undef).getD j Go.undef = u := by
        simp only [List.getD_eq_getElem?_getD, List.getElem?_map, List.getElem?_range hlt, Option.map_some, h1]; rfl
      rw [this]; exact h3
  -- moved: a new block
  have moved : ∀ (cap : Nat) (olds : List Value), olds.length = xs.length * i.size → (∀ (j : Nat) (x : AV), xs.flatten[j]? = some x → Rep w S φ (olds.getD j Go.undef) x) → xs.length + ys.length ≤ grownCap w (xs.length + ys.length) cap e →
      ∀ (j : Nat) (x : AV), (xs ++ ys).flatten[j]? = some x → ∃ v, Rep w S φ v x ∧ (olds.toArray ++ news.toArray ++ Builtin.zeroCells z.cells (grownCap w (xs.length + ys.length) cap e - (xs.length + ys.length))).getD j Go.undef = v := fun cap olds hol hor hcap j x hj => by
    refine ⟨_, ?_, rfl⟩
    rw [List.flatten_append] at hj
    rw [Array.getD_eq_getD_getElem?]
    rcases Nat.lt_or_ge j xs.flatten.length with hlt | hge
    · rw [List.getElem?_append_left hlt] at hj
      rw [Array.getElem?_append_left (by simp; omega), Array.getElem?_append_left (by simp; omega)]
      have := hor j x hj
      simpa [List.getD_eq_getElem?_getD] using this
    · rw [List.getElem?_append_right hge] at hj
      have hlt2 := (List.getElem?_eq_some_iff.1 hj).1
      rw [Array.getElem?_append_left (by simp; omega), Array.getElem?_append_right (by simp; omega)]
      have := hnr _ x hj
      simp only [List.size_toArray, hol, ← hfx]
      simpa [List.getD_eq_getElem?_getD] using this
  have msize : ∀ (cap : Nat) (olds : List Value), olds.length = xs.length * i.size → (olds.toArray ++ news.toArray ++ Builtin.zeroCells z.cells (grownCap w (xs.length + ys.length) cap e - (xs.length + ys.length))).size = grownCap w (xs.length + ys.length) cap e * i.size := fun cap olds hol => by
    have hge := grownCap_ge w (xs.length + ys.length) cap e
    simp only [Array.size_append, List.size_toArray, size_zeroCells, hzs, hol, hnl, ← Nat.add_mul]
    congr 1; omega
  have msz : ∀ (o : Obj), w.heap.size ≤ (w.drew.alloc o).heap.size := fun o => by
    show w.heap.size ≤ (w.heap.push o).size
    simp
  have below : ∀ (o : Obj), (∀ b, b < w.heap.size → b ≠ w.heap.size → (w.drew.alloc o).heap[b]? = w.heap[b]?) := fun o b hb _ => heap_old w.drew o b hb
  cases g0 with
  | none =>
    obtain ⟨hx0, A, rfl⟩ := hat
    have hx : xs = [] := List.eq_nil_of_length_eq_zero hx0
    subst hx
    simp only [List.length_nil, Nat.zero_add] at *
    cases A with
    | none =>
      have hr := run_append_nil (P := P) w t ty e i z ht hi hz ⟨b, off, none⟩ ys.length c news hnl hnc hm (by omega) (by omega)
      have hmv := moved 0 [] (by simp) (by simp) (grownCap_ge _ _ _ _)
      have hms := msize 0 [] (by simp)
      simp only [Array.empty_append] at hmv hms
      exact ⟨_, _, _, _, hr, .inr (Nat.le_refl _), rfl, rfl, rfl, msz _, below _, heap_new w.drew _, grownCap_ge _ _ _ _, hms, hmv⟩
    | some A =>
      have hr := run_append_grow (P := P) w t ty e i z ht hi hz A 0 0 [] (by simp) (by simp) ⟨b, off, none⟩ ys.length c news hnl hnc (by omega) (by omega) (by
        rw [Nat.zero_add]; exact growslice_fits hm hby)
      simp only [Nat.zero_add] at hr
      exact ⟨_, _, _, _, hr, .inr (Nat.le_refl _), rfl, rfl, rfl, msz _, below _, heap_new w.drew _, grownCap_ge _ _ _ _, msize 0 [] (by simp), moved 0 [] (by simp) (by simp) (grownCap_ge _ _ _ _)⟩
  | some g =>
    obtain ⟨cap, cur, rfl, hnc', hgc, hgs⟩ := hat
    obtain ⟨hnS, cur', ty', h4, h5, h6, h7⟩ := hblk
    rw [h4] at hgc
    cases hgc
    simp only [Blk.loc, Blk.n, Blk.sz, Blk.e] at hnc' hgs h4 ⊢
    have hgl : g < w.heap.size := (Array.getElem?_eq_some_iff.1 h4).1
    by_cases hroom : xs.length + ys.length ≤ cap
    · have hfit : xs.length * i.size + news.length ≤ cur.size := by rw [hnl, hgs, ← Nat.add_mul]; exact Nat.mul_le_mul_right _ hroom
      have hr := run_append_room (P := P) w t ty e i ht hi g xs.length cap cur h4 ⟨b, off, none⟩ ys.length c news hnl hnc hno hroom hfit
      refine ⟨_, g, cap, _, hr, .inl rfl, rfl, rfl, rfl, by simp, fun b _ hb => setRow_other w g b _ hb, setRow_heap w g cur _ _ _ h4, hroom, ?_, fun j x hj => ⟨_, ?_, rfl⟩⟩
      · simp only [List.size_toArray, List.length_append, List.length_take, List.length_drop, Array.length_toList]; omega
      · have hspl : (splice (xs.length * i.size) ys.flatten (xs.flatten ++ List.replicate ys.flatten.length .any)) = (xs ++ ys).flatten := by
          rw [List.flatten_append, splice, ← hfx, List.take_left, List.drop_eq_nil_of_le (by simp)]; simp
        have := splice_rep (w := w) (S := S) (φ := φ) (cur := cur) (new := news.toArray) (cs := xs.flatten ++ List.replicate ys.flatten.length .any) (xs := ys.flatten) (off := xs.length * i.size) (fun q y hq => by
          rcases Nat.lt_or_ge q xs.flatten.length with hlt | hge
          · rw [List.getElem?_append_left hlt] at hq; exact h7 q y hq
          · rw [List.getElem?_append_right hge, List.getElem?_replicate] at hq
            split at hq
            · cases hq; exact .any
            · cases hq) (fun q y hq => by
          have := hnr q y hq
          simpa [List.getD_eq_getElem?_getD] using this) (by simp [hnl, ← hfy]) (by simp [← hfx]) (by rw [List.length_append, List.length_replicate, hfx, hfy, ← hnl]; exact hfit) j x (by rw [hspl]; exact hj)
        simpa using this
    · obtain ⟨olds, hol, hoc, hor⟩ : ∃ olds : List Value, olds.length = xs.length * i.size ∧ (∀ j u, olds[j]? = some u → w.cell? ((⟨g, 0, none⟩ : Addr).add j) = some u) ∧ ∀ (j : Nat) (x : AV), xs.flatten[j]? = some x → Rep w S φ (olds.getD j Go.undef) x := by
        have hle : xs.flatten.length ≤ cur.size := h5
        refine ⟨cur.toList.take xs.flatten.length, by rw [List.length_take, ← hfx]; exact Nat.min_eq_left (by simpa using hle), fun j u hj => ?_, fun j x hj => ?_⟩
        · rw [List.getElem?_take] at hj
          split at hj
          · rw [addr_add, Nat.zero_add]
            simp only [World.cell?, h4]
            simpa using hj
          · cases hj
        · have hlt := (List.getElem?_eq_some_iff.1 hj).1
          have := h7 j x hj
          rw [List.getD_eq_getElem?_getD, List.getElem?_take, if_pos hlt]
          simpa [Array.getD_eq_getD_getElem?] using this
      have hr := run_append_grow (P := P) w t ty e i z ht hi hz ⟨g, 0, none⟩ xs.length cap olds hol hoc ⟨b, off, none⟩ ys.length c news hnl hnc (by omega) (by omega) (growslice_fits (by omega) hby)
      exact ⟨_, _, _, _, hr, .inr (Nat.le_refl _), rfl, rfl, rfl, msz _, below _, heap_new w.drew _, grownCap_ge _ _ _ _, msize cap olds hol, moved cap olds hol hor (grownCap_ge _ _ _ _)⟩

section rules
variable {P : Program} {T : TT} {B : Base} {Q : AExit → ASt → Prop} {st : ASt} {ops : Array Oper} {o : Oper} {rest : List Oper}

theorem list_set_same {α : Type} : ∀ (l : List α) (k : Nat) (x : α), l[k]? = some x → l.set k x = l
  | [], _, _, h => by simp at h
  | y :: l, 0, x, h => by simp at h; simp [h]
  | y :: l, k + 1, x, h => by simp at h; simp [list_set_same l k x h]

/-- s = append(s, y...), s a slice of the call's own. -/
theorem aops_append (hT : TOk P T) {t e : TypeId} {d ed : TD} {s y : Operand} {k sz : Nat} {xs ys : List (List AV)} (hw : awanted ops st o = some true) (ho : o.op = .call ⟨.builtin .append, #[s, y], #[t, t]⟩) (hd : T t = some d) (hk : d.kind = .slice e) (hed : T e = some ed)
    (hs : st.eval s = .own k xs.length) (hb : st.heap[k]? = some (some (.row xs sz e))) (hsz : sz = ed.size) (hy : srcOf st.heap (st.eval y) = some ys) (hev : ∀ el ∈ ys, el.length = ed.size) (hsol : ∀ el ∈ ys, el.all (solid st.heap) = true)
    (h63 : xs.length + ys.length ≤ 9223372036854775807) (hby : (xs.length + ys.length) * ed.bytes ≤ 140737488355328)
    (h : AOps P B ops Q rest (({ st with heap := st.heap.set k (some (.row (xs ++ ys) sz e)) } : ASt).put o.dst (.own k (xs ++ ys).length))) : AOps P B ops Q (o :: rest) st :=
  aops_step hw fun K hK S φ a w hr => by
    obtain ⟨it, ut, h1, h2, h3, _, h5, _⟩ := hT.get hd
    rw [hk] at h5
    rw [kind_slice h5] at h2
    obtain ⟨i, ut', g1, g2, g3, g4, g5, z, gz, gzo, gzl⟩ := hT.get hed
    have hzs : z.cells.size = i.size := by have := (zeroOk_rep gzo w S φ).1; simp at this; omega
    have e1 := rel_eval (st := st) hr.tmps s
    have e2 := rel_eval (st := st) hr.tmps y
    rw [hs] at e1
    obtain ⟨A, c, hyv, hyc, hyr⟩ := src_rep hr.heap.live e2 hy
    obtain ⟨hevx, g, q1, q2⟩ := hr.heap.live k _ hb
    have hsz' : sz = i.size := hsz.trans g3.symm
    subst hsz'
    unfold Oper.wp execOp
    simp only [ho, resolve, invoke, builtin, Sem.run_bind, Sem.run_pure, Result.andThen_ok, List.map_toArray, List.map_cons, List.map_nil, hyv]
    generalize hsv : a.eval s = v at e1
    cases e1 with
    | own hk' hle hv' =>
      have hat := hv' _ q1 rfl
      by_cases hne : ys = []
      · subst hne
        obtain ⟨base, cap, hvv, hcap⟩ : ∃ base cap, v = .slice base xs.length cap ∧ xs.length ≤ cap := by
          cases g with
          | none => obtain ⟨hx0, A, rfl⟩ := hat; exact ⟨A, 0, by simp [Blk.loc, Blk.n] at hx0; simp [hx0], by simp [Blk.loc, Blk.n] at hx0; simp [hx0]⟩
          | some g => obtain ⟨cap, cur, rfl, hc, _⟩ := hat; exact ⟨_, cap, rfl, hc⟩
        have hrn := run_append_none (P := P) w t o.type e i h2 g1 base A xs.length cap c hcap
        rw [hvv, List.length_nil, hrn]
        simp only [Result.andThen_ok, Oper.upon_value]
        rw [List.append_nil, list_set_same _ _ _ hb] at h
        exact ⟨S, φ, _, rel_put (st := st) hr o.dst (.own hk' hle (fun L hL hn => hvv ▸ hv' L hL hn) ⟨_, _, _, rfl⟩), hK _ h⟩
      · obtain ⟨b, off, rfl, hcell⟩ := hyr hne
        have hcell' : ∀ (j : Nat) (x : AV), ys.flatten[j]? = some x → ∃ u, w.cell? ⟨b, off + j, none⟩ = some u ∧ u.oneCell' = true ∧ Rep w S φ u x := fun j x hj => by
          obtain ⟨u, c1, c2⟩ := hcell j x hj
          obtain ⟨el, hel, hx⟩ := List.mem_flatten.1 (List.mem_of_getElem? hj)
          exact ⟨u, c1, solid_one hr.heap.live c2 (List.all_eq_true.1 (hsol el hel) x hx), c2⟩
        obtain ⟨w', g', cap, cs, r1, r2, r3, r4, r5, r6, r7, r8, r9, r10, r11⟩ := append_run (P := P) (ty := o.type) (c := c) h2 g1 gz hzs hat q2 hevx hne hcell' (fun el hel => (hev el hel).trans g3.symm) h63 (by rw [g4]; exact hby)
        rw [r1]
        simp only [Result.andThen_ok, Oper.upon_value]
        have hlen : (xs ++ ys).length = xs.length + ys.length := List.length_append
        obtain ⟨p1, p2⟩ := hrel_grow hr.heap hb q1 (xs' := xs ++ ys) (by rw [hlen]; have := List.length_pos_iff.2 hne; omega) r2 r3 r4 r5 r6 r7 r8 (fun el hel => by
          rcases List.mem_append.1 hel with h | h
          · exact hevx el h
          · exact (hev el h).trans g3.symm) ⟨cap, by rw [hlen]; exact r9, r10⟩ r11
        refine ⟨S, _, _, rel_put (rel_heap hr p1 p2) o.dst (.own (by simp [updPhi]) (fun L hL => by simp [updPhi] at hL; subst hL; exact Nat.le_refl _) (fun L hL hn => by
          simp [updPhi] at hL; subst hL
          exact ⟨cap, cs, by simp only [Blk.loc, Blk.n, hlen], by simp only [Blk.loc, Blk.n, hlen]; exact r9, r8, r10⟩) ⟨_, _, _, rfl⟩), hK _ h⟩

/-! ### ghost steps -/
def SWeak (st st' : ASt) : Prop := ∀ (B : Base) S φ a w, B.n ≤ st'.heap.length → Rel B S φ st a w → ∃ S' φ', Rel B S' φ' st' a w

theorem aops_weak {l : List Oper} {st' : ASt} (hs : SWeak st st') (hn : B.n ≤ st'.heap.length) (h : AOps P B ops Q l st') : AOps P B ops Q l st := fun S φ a w hr => let ⟨S', φ', hr'⟩ := hs B S φ a w hn hr; h S' φ' a w hr'
theorem awp_sweak {c : Code} {st' : ASt} (hs : SWeak st st') (hn : B.n ≤ st'.heap.length) (h : AWp P B c Q st') : AWp P B c Q st := fun S φ a w hr => let ⟨S', φ', hr'⟩ := hs B S φ a w hn hr; h S' φ' a w hr'

theorem SWeak.trans {a b c : ASt} (h : SWeak a b) (h' : SWeak b c) (hl : c.heap.length ≤ b.heap.length) : SWeak a c := fun B S φ x w hn hr => let ⟨S1, φ1, h1⟩ := h B S φ x w (by omega) hr; h' B S1 φ1 x w hn h1

/-- Variables are forgotten, or told in another way. -/
theorem sweak_tmps {ts rs : List AV} {h : AHeap} {ds : List (FuncId × List AV)} (hw : WeakL ts rs) : SWeak ⟨ts, h, ds⟩ ⟨rs, h, ds⟩ := fun B S φ a w _ hr => ⟨S, φ, hr.heap, hr.tmps.weak hw, hr.defs, hr.ext⟩

theorem trel_cut {w : World} {S : Nat → Prop} {φ : Phi} {n : Nat} {vs : Array Value} {xs : List AV} (h : TRel w S φ vs xs) (hu : AV.underL n xs = true) : TRel w S (cutPhi n φ) vs xs :=
  ⟨h.1, fun j x hj => (h.2 j x hj).restrict (AV.underL_get hu j x hj) (fun k hk => by simp [cutPhi, hk])⟩

/-- The last blocks are forgotten. -/
theorem sweak_trunc {ts : List AV} {h l : AHeap} (hok : h.ok) (hu : AV.underL h.length ts = true) : SWeak ⟨ts, h ++ l, []⟩ ⟨ts, h, []⟩ := fun B S φ a w hn hr =>
  ⟨S, cutPhi h.length φ, hrel_trunc hr.heap hok, trel_cut hr.tmps hu, by
    have := hr.defs
    cases hd : a.defers with
    | nil => trivial
    | cons x y => rw [hd] at this; exact this.elim, ext_trunc hr.ext (fun k hk => B.hn k (Nat.le_trans hn hk))⟩

/-- A nil slice becomes a slice of the call's own. -/
theorem sweak_own {ts : List AV} {h : AHeap} {ds : List (FuncId × List AV)} (i sz : Nat) (e : TypeId) (hi : ts[i]? = some .nilsl) : SWeak ⟨ts, h, ds⟩ ⟨ts.set i (.own h.length 0), h ++ [some (.row [] sz e)], ds⟩ := fun B S φ a w _ hr => by
  obtain ⟨g1, g2⟩ := hrel_ghost hr.heap sz e
  refine ⟨S, _, g1, ⟨by rw [List.length_set]; exact hr.tmps.1, fun j x hj => ?_⟩, hr.defs.step g2.step, hr.ext.trans g2⟩
  rw [List.getElem?_set] at hj
  split at hj
  · rename_i e1
    subst e1
    split at hj
    · cases hj
      have := hr.tmps.2 i _ hi
      generalize a.tmps.getD i Go.undef = v at this
      cases this
      exact .own (by simp [updPhi]) (fun L hL => Nat.zero_le _) (fun L hL hn => by simp [updPhi] at hL; subst hL; exact ⟨rfl, _, rfl⟩) ⟨_, _, _, rfl⟩
    · cases hj
  · exact (hr.tmps.2 j x hj).step g2.step

/-- A slice of the call's own is finished: nothing writes to it any more. -/
theorem sweak_freeze {ts : List AV} {h : AHeap} {ds : List (FuncId × List AV)} (i k sz : Nat) {xs : List (List AV)} {e : TypeId} (hi : ts[i]? = some (.own k xs.length)) (hk : h[k]? = some (some (.row xs sz e))) (hp : ∀ el ∈ xs, AV.underL 0 el = true) :
    SWeak ⟨ts, h, ds⟩ ⟨ts.set i (.list xs), h.set k none, ds⟩ := fun B S φ a w _ hr => by
  obtain ⟨hev, g, q1, q2⟩ := hr.heap.live k _ hk
  have hkl : k < h.length := (List.getElem?_eq_some_iff.1 hk).1
  have hst : Step w S φ w (fun b => S b ∨ g = some b) (fun j => if j = k then some none else φ j) := ⟨fun b h => .inl h, fun _ _ => rfl, fun j => by
    by_cases hj : j = k
    · subst hj; exact .inr (.inr (.inl (by simp)))
    · exact .inr (.inl (by simp [hj])), fun _ _ _ _ _ _ _ cs _ h => ⟨cs, h, rfl⟩⟩
  have hheap : HRel w (fun b => S b ∨ g = some b) (fun j => if j = k then some none else φ j) (h.set k none) := by
    refine ⟨fun j hj => ?_, fun j hj => ?_, fun j B' hj => ?_, fun j j' g1 L L' h1 h2 e1 e2 => ?_, fun b hb => ?_⟩
    · rw [List.length_set] at hj
      have : j ≠ k := by omega
      simp only [this, if_false]; exact hr.heap.dom j hj
    · by_cases hjk : j = k
      · exact .inr (by simp [hjk])
      · rw [List.getElem?_set_ne (fun e => hjk e.symm)] at hj
        simp only [hjk, if_false]; exact hr.heap.dead j hj
    · by_cases hjk : j = k
      · subst hjk
        rw [List.getElem?_set_self hkl] at hj; cases hj
      · rw [List.getElem?_set_ne (fun e => hjk e.symm)] at hj
        obtain ⟨p1, g1, p2, p3⟩ := hr.heap.live j B' hj
        refine ⟨p1, g1, by simp only [hjk, if_false]; exact p2, ?_⟩
        cases g1 with
        | none => exact p3
        | some g1 =>
          obtain ⟨a', cs, ty, b, c, d, e'⟩ := p3
          refine ⟨fun hS => ?_, cs, ty, b, c, d, fun q x hq => (e' q x hq).step hst⟩
          rcases hS with hS | hS
          · exact a' hS
          · subst hS
            exact hjk (hr.heap.inj j k g1 _ _ p2 q1 rfl rfl)
    · by_cases hjk : j = k
      · simp [hjk] at h1
      · by_cases hjk' : j' = k
        · simp [hjk'] at h2
        · simp only [hjk, hjk', if_false] at h1 h2
          exact hr.heap.inj j j' g1 L L' h1 h2 e1 e2
    · rcases hb with hb | hb
      · exact hr.heap.bound b hb
      · subst hb; exact hrel_lt hr.heap q1 rfl
  have hext : Ext w S φ w (fun b => S b ∨ g = some b) (fun j => if j = k then some none else φ j) :=
    ⟨hst, rfl, rfl, rfl, Nat.le_refl _, fun _ _ _ => rfl, fun b hb => hb.imp id (fun h => .inr ⟨k, _, q1, by simp [Blk.loc, h]⟩), fun j g1 L hj hg1 => by
      by_cases hjk : j = k
      · simp [hjk] at hj
      · simp only [hjk, if_false] at hj; exact .inr ⟨j, L, hj, hg1⟩⟩
  refine ⟨_, _, hheap, ⟨by rw [List.length_set]; exact hr.tmps.1, fun j x hj => ?_⟩, hr.defs.step hst, hr.ext.trans hext⟩
  rw [List.getElem?_set] at hj
  split at hj
  · rename_i e1
    subst e1
    split at hj
    · cases hj
      have := hr.tmps.2 i _ hi
      generalize a.tmps.getD i Go.undef = v at this
      cases this with
      | own hk' hle hv =>
        have ha := hv _ q1 rfl
        cases g with
        | none =>
          obtain ⟨_, _, he⟩ := q2
          have : xs = [] := by cases he; rfl
          subst this
          obtain ⟨_, A, rfl⟩ := ha
          exact .nil
        | some g =>
          obtain ⟨cap, cs, rfl, c1, c2, c3⟩ := ha
          obtain ⟨_, cs', ty, h4, h5, h6, h7⟩ := q2
          refine .list (sz := sz) (fun j => cs'.getD j Go.undef) (.inr rfl) rfl c1 hev (fun j x hj => ?_) (fun j x hj => ?_)
          · have hlt : j < cs'.size := Nat.lt_of_lt_of_le (List.getElem?_eq_some_iff.1 hj).1 h5
            simp [World.cell?, h4, hlt]
          · obtain ⟨el, hel, hx⟩ := List.mem_flatten.1 (List.mem_of_getElem? hj)
            obtain ⟨q, hq⟩ := List.mem_iff_getElem?.1 hx
            exact ((h7 j x hj).restrict (φ' := Phi.nil) (AV.underL_get (hp el hel) q x hq) (fun k hk => by omega)).step hst.toNil
    · cases hj
  · exact (hr.tmps.2 j x hj).step hst
end rules
end Go.Proofs.Ytpckfpahmnhfcaa.G
