/- The ghost machine: windows: appends of zeros, appends in place, clear, overlaps. -/
import Derived.Test.YtpckfpahmnhfcaaG15
namespace Go.Proofs.Ytpckfpahmnhfcaa.G
open Go Go.RowKit
set_option linter.unusedVariables false
set_option linter.unusedSimpArgs false

mutual
theorem under_mono {n m : Nat} (hnm : n ≤ m) : ∀ (x : AV), AV.under n x = true → AV.under m x = true
  | .own k _, h => by simp [AV.under] at h ⊢; omega
  | .ptr k _, h => by simp [AV.under] at h ⊢; omega
  | .rptr k _ _ _, h => by simp [AV.under] at h ⊢; omega
  | .win k _ _ _, h => by simp [AV.under] at h ⊢; omega
  | .fn f fs cs, h => by simp [AV.under] at h ⊢; exact ⟨underL_mono hnm fs h.1, underL_mono hnm cs h.2⟩
  | .iface t x, h => by simp [AV.under] at h ⊢; exact under_mono hnm x h
  | .agg cs, h => by simp [AV.under] at h ⊢; exact underL_mono hnm cs h
  | .tuple cs, h => by simp [AV.under] at h ⊢; exact underL_mono hnm cs h
  | .any, _ => rfl
  | .undef, _ => rfl
  | .bool _, _ => rfl
  | .int _ _, _ => rfl
  | .str _, _ => rfl
  | .nilsl, _ => rfl
  | .list _, _ => rfl
  | .nilptr, _ => rfl
  | .fptr _, _ => rfl
  | .nilfn, _ => rfl
  | .nilIface, _ => rfl
theorem underL_mono {n m : Nat} (hnm : n ≤ m) : ∀ (xs : List AV), AV.underL n xs = true → AV.underL m xs = true
  | [], _ => rfl
  | x :: xs, h => by simp [AV.underL] at h ⊢; exact ⟨under_mono hnm x h.1, underL_mono hnm xs h.2⟩
end
section rules
variable {P : Program} {T : TT} {B : Base} {Q : AExit → ASt → Prop} {st : ASt} {ops : Array Oper} {o : Oper} {rest : List Oper} {ts ts' : List AV} {hp hp' : AHeap} {ds : List (FuncId × List AV)}

/-- s[lo:hi], s a window; its end, too. -/
theorem head_slice_wine {ρ : Operand → AV} (hT : TOk P T) {t e : TypeId} {d ed : TD} {p : Operand} {lo hi : Option Operand} {k off len cap : Nat} {cs : List AV} {l h : Int} (ho : o.op = .slice t p lo hi none) (hd : T t = some d) (hk : d.kind = .slice e) (hed : T e = some ed)
    (hx : ρ p = .win k off len cap) (hb : hp[k]? = some (some (.var cs))) (hlo : abnd ρ lo 0 = some l) (hhi : abnd ρ hi len = some h) (h0 : 0 ≤ l) (hlh : l ≤ h) (hhl : h ≤ cap) : AHead P o ρ hp (.win k (if cap = l.toNat then off else off + l.toNat * ed.size) (h.toNat - l.toNat) (cap - l.toNat)) none := head_ro fun w S φ a hl hev => by
  have e1 := hev p (by simp [ho, Op.operands])
  rw [hx] at e1
  obtain ⟨_, g, q1, q2⟩ := hl k _ hb
  unfold execOp
  simp only [ho]
  generalize a.eval p = v at e1
  cases e1 with
  | win hk' hv =>
    obtain ⟨g', e1, rfl⟩ := hv _ q1 rfl
    simp only [Blk.loc] at e1
    subst e1
    have hrun := run_slice2 (w := w) (S := S) (φ := φ) (ρ := ρ) (a := a) (A := some ⟨g', off, none⟩) hT hd hk hed (fun y hy => hev y (by simp [ho, Op.operands, hy])) (fun y hy => hev y (by simp [ho, Op.operands, hy])) hlo hhi h0 hlh hhl
    refine ⟨_, by rw [Sem.run_bind, hrun, Result.andThen_ok, Sem.run_pure], ?_⟩
    refine .win hk' (fun L hL hn => ?_)
    rw [q1] at hL; cases hL
    refine ⟨g', rfl, ?_⟩
    split <;> simp [addr_add]

theorem src_wine {hp : AHeap} {k off l sz m cap c : Nat} {cs : List AV} (hk : hp[k]? = some (some (.var cs))) (hm : cap = l → m = 0) : Src hp (.win k (if cap = l then off else off + l * sz) m c) m ((cs.drop (off + l * sz)).take (m * sz)) := by
  by_cases h : cap = l
  · rw [if_pos h]
    have := hm h
    subst this
    simpa using src_win (n := 0) hk
  · rw [if_neg h]
    exact src_win hk

/-- append(s, make([]T, q)...), s without room. -/
theorem aops_append_zeros (hT : TOk P T) {t tn e : TypeId} {d dn ed : TD} {s y : Operand} {kn kq : IntKind} {k off len cap q : Nat} {cs : List AV} (hw : awanted ops st o = some true) (ho : o.op = .call ⟨.builtin .append, #[s, y], #[t, tn]⟩) (hd : T t = some d) (hk : d.kind = .slice e) (hed : T e = some ed) (hdn : T tn = some dn) (hkn : dn.kind = .int kn)
    (hs : st.eval s = .win k off len cap) (hb : st.heap[k]? = some (some (.var cs))) (hy : st.eval y = .int kq q) (hq : 0 < q) (hsz : 0 < ed.size) (hlen : off + len * ed.size ≤ cs.length) (hroom : cap < len + q) (h63 : len + q ≤ 9223372036854775807) (hby : (len + q) * ed.bytes ≤ 140737488355328)
    (h : ∀ c', len + q ≤ c' → AOps P B ops Q rest (({ st with heap := st.heap ++ [some (.var ((cs.drop off).take (len * ed.size) ++ List.replicate ((c' - len) * ed.size) .any))] } : ASt).put o.dst (.win st.heap.length 0 (len + q) c'))) : AOps P B ops Q (o :: rest) st :=
  aops_step hw fun K hK S φ a w hr => by
    obtain ⟨it, ut, h1, h2, h3, _, h5, _⟩ := hT.get hd
    rw [hk] at h5
    rw [kind_slice h5] at h2
    obtain ⟨itn, utn, n1, n2, n3, _, n5, _⟩ := hT.get hdn
    rw [hkn] at n5
    rw [kind_int n5] at n2
    obtain ⟨i, ut', g1, g2, g3, g4, g5, z, gz, gzo, gzl⟩ := hT.get hed
    have hzs : z.cells.size = i.size := by have := (zeroOk_rep gzo w S φ).1; simp at this; omega
    have e1 := rel_eval (st := st) hr.tmps s
    have e2 := rel_eval (st := st) hr.tmps y
    rw [hs] at e1
    rw [hy] at e2
    have e2' := rep_int_inv e2
    obtain ⟨_, g, q1, q2⟩ := hr.heap.live k _ hb
    generalize hsv : a.eval s = v at e1
    cases e1 with
    | win hk' hv =>
      obtain ⟨g', e1, rfl⟩ := hv _ q1 rfl
      simp only [Blk.loc] at e1
      subst e1
      obtain ⟨hnS, cur, ty, h4, h5', h6, h7⟩ := q2
      have h6' : cur.size = cs.length := h6
      obtain ⟨hd1, hd2⟩ := hrel_drew hr.heap
      obtain ⟨olds, ol, oc, orp⟩ : ∃ olds : List Value, olds.length = len * ed.size ∧ (∀ (j : Nat) (u : Value), olds[j]? = some u → w.drew.cell? ((⟨g', off, none⟩ : Addr).add j) = some u) ∧ ∀ (j : Nat) (x : AV), ((cs.drop off).take (len * ed.size))[j]? = some x → Rep w.drew S φ (olds.getD j Go.undef) x := by
        refine ⟨(cur.toList.drop off).take (len * ed.size), by simp; omega, fun j u hj => ?_, fun j x hj => ?_⟩
        · rw [List.getElem?_take] at hj
          split at hj
          · rw [List.getElem?_drop, Array.getElem?_toList] at hj
            rw [addr_add]
            show w.cell? _ = _
            simp only [World.cell?, h4]
            exact hj
          · cases hj
        · rw [List.getElem?_take] at hj
          split at hj
          · rename_i hjl
            rw [List.getElem?_drop] at hj
            have := (h7 _ x hj).step hd2.step
            simpa [List.getD_eq_getElem?_getD, List.getElem?_take, hjl, Array.getD_eq_getD_getElem?] using this
          · cases hj
      have hold : (Builtin.firstCells i.size len (.slice (some ⟨g', off, none⟩) len cap)).run P w.drew = .ok olds.toArray w.drew := run_firstCells_some w.drew i.size len _ len cap olds (by rw [ol, g3]) oc
      have hqb : q * i.bytes ≤ 281474976710656 := by
        have : q * i.bytes ≤ (len + q) * i.bytes := Nat.mul_le_mul_right _ (by omega)
        rw [g4] at this ⊢; omega
      have hrun := Lib.run_append_grow_zeros (P := P) w t tn o.type e i z kq kn h2 n2 g1 gz (some ⟨g', off, none⟩) len cap olds hold q hq (by omega) hroom (by omega) hqb (by rw [g4]; exact growslice_fits hroom hby)
      obtain ⟨c', hc'⟩ : ∃ c', c' = grownCap w (len + q) cap e := ⟨_, rfl⟩
      have hge : len + q ≤ c' := by rw [hc']; exact grownCap_ge _ _ _ _
      rw [← hc'] at hrun
      obtain ⟨cells, hcells⟩ : ∃ cells, cells = olds.toArray ++ Builtin.zeroCells z.cells q ++ Builtin.zeroCells z.cells (c' - (len + q)) := ⟨_, rfl⟩
      rw [← hcells] at hrun
      have hcsz : cells.size = c' * ed.size := by
        rw [hcells]
        simp only [Array.size_append, List.size_toArray, size_zeroCells, hzs, ol, g3, ← Nat.add_mul]
        congr 1; omega
      have hrow : ((cs.drop off).take (len * ed.size) ++ List.replicate ((c' - len) * ed.size) AV.any).length = cells.size := by
        rw [hcsz]
        simp only [List.length_append, List.length_take, List.length_drop, List.length_replicate]
        rw [Nat.min_eq_left (by omega), ← Nat.add_mul]
        congr 1; omega
      obtain ⟨p1, p2⟩ := hrel_new hd1 (.var ((cs.drop off).take (len * ed.size) ++ List.replicate ((c' - len) * ed.size) .any)) cells e trivial (by simp only [Blk.full]; exact hrow.symm) (by simp only [Blk.cells]; omega) (fun j x hj => by
        simp only [Blk.cells] at hj
        have hl : ((cs.drop off).take (len * ed.size)).length = len * ed.size := by simp; omega
        rcases Nat.lt_or_ge j (len * ed.size) with hlt | hge'
        · rw [List.getElem?_append_left (by omega)] at hj
          have := orp j x hj
          rw [hcells, Array.getD_eq_getD_getElem?, Array.getElem?_append_left (by simp; omega), Array.getElem?_append_left (by simp; omega)]
          simpa [List.getD_eq_getElem?_getD] using this
        · rw [List.getElem?_append_right (by omega), List.getElem?_replicate] at hj
          split at hj
          · cases hj; exact .any
          · cases hj)
      unfold Oper.wp execOp
      simp only [ho, resolve, invoke, builtin, Sem.run_bind, Sem.run_pure, Result.andThen_ok, List.map_toArray, List.map_cons, List.map_nil, hsv, e2', hrun, Oper.upon_value]
      refine ⟨S, _, _, rel_put (rel_heap hr p1 (hd2.trans p2)) o.dst (.win (by simp [updPhi]) (fun L hL _ => by simp [updPhi] at hL; subst hL; exact ⟨_, rfl, rfl⟩)), hK _ (h c' hge)⟩

theorem d_append_zeros (hT : TOk P T) {t tn e : TypeId} {d dn ed : TD} {s y : Operand} {kn kq : IntKind} {k off len cap q : Nat} {cs : List AV} (hw : awantedL ops ts o = some true) (ho : o.op = .call ⟨.builtin .append, #[s, y], #[t, tn]⟩) (hd : T t = some d) (hk : d.kind = .slice e) (hed : T e = some ed) (hdn : T tn = some dn) (hkn : dn.kind = .int kn)
    (hs : evalL ts s = .win k off len cap) (hb : hp[k]? = some (some (.var cs))) (hy : evalL ts y = .int kq q) (hq : 0 < q) (hsz : 0 < ed.size) (hlen : off + len * ed.size ≤ cs.length) (hroom : cap < len + q) (h63 : len + q ≤ 9223372036854775807) (hby : (len + q) * ed.bytes ≤ 140737488355328)
    (h : ∀ c', len + q ≤ c' → AOps P B ops Q rest ⟨putL ts o.dst (.win hp.length 0 (len + q) c'), hp ++ [some (.var ((cs.drop off).take (len * ed.size) ++ List.replicate ((c' - len) * ed.size) .any))], ds⟩) : AOps P B ops Q (o :: rest) ⟨ts, hp, ds⟩ := by
  refine aops_append_zeros (st := ⟨ts, hp, ds⟩) hT hw ho hd hk hed hdn hkn hs hb hy hq hsz hlen hroom h63 hby fun c' hc => ?_
  have h := h c' hc
  cases hd : o.dst <;> (simp only [putL, hd] at h; simp only [ASt.put]; exact h)

/-- append(s, y...), s a window with room. -/
theorem aops_append_win (hT : TOk P T) {t e : TypeId} {d ed : TD} {s y : Operand} {k len cap m : Nat} {cs src : List AV} (hw : awanted ops st o = some true) (ho : o.op = .call ⟨.builtin .append, #[s, y], #[t, t]⟩) (hd : T t = some d) (hk : d.kind = .slice e) (hed : T e = some ed)
    (hs : st.eval s = .win k 0 len cap) (hb : st.heap[k]? = some (some (.var cs))) (hsrc : Src st.heap (st.eval y) m src) (hsl : src.length = m * ed.size) (hsol : ∀ z ∈ src, solid st.heap z = true) (hroom : len + m ≤ cap) (hfit : len * ed.size + src.length ≤ cs.length)
    (h : AOps P B ops Q rest (({ st with heap := st.heap.set k (some (.var (splice (len * ed.size) src cs))) } : ASt).put o.dst (.win k 0 (len + m) cap))) : AOps P B ops Q (o :: rest) st :=
  aops_step hw fun K hK S φ a w hr => by
    obtain ⟨it, ut, h1, h2, h3, _, h5, _⟩ := hT.get hd
    rw [hk] at h5
    rw [kind_slice h5] at h2
    obtain ⟨i, ut', g1, g2, g3, g4, g5, z, gz, gzo, gzl⟩ := hT.get hed
    have e1 := rel_eval (st := st) hr.tmps s
    have e2 := rel_eval (st := st) hr.tmps y
    rw [hs] at e1
    obtain ⟨A, c, hyv, hyc⟩ := hsrc w S φ _ hr.heap.live e2
    obtain ⟨_, g, q1, q2⟩ := hr.heap.live k _ hb
    generalize hsv : a.eval s = v at e1
    cases e1 with
    | win hk' hv =>
      obtain ⟨g', e1, rfl⟩ := hv _ q1 rfl
      simp only [Blk.loc] at e1
      subst e1
      obtain ⟨hnS, cur, ty, h4, h5', h6, h7⟩ := q2
      have h6' : cur.size = cs.length := h6
      have fin : ∀ (vs : List Value), vs.length = src.length → (∀ (j : Nat) (x : AV), src[j]? = some x → Rep w S φ (vs.getD j Go.undef) x) → (Builtin.append_ #[t, t] o.type #[.slice (some ⟨g', 0, none⟩) len cap, .slice A m c]).run P w = .ok (.slice (some ⟨g', 0, none⟩) (len + m) cap) (w.setRow g' (cur.toList.take (len * ed.size) ++ vs ++ cur.toList.drop (len * ed.size + vs.length)).toArray) →
          o.wp P a w (fun a' w' => ∃ S' φ' s', Rel B S' φ' s' a' w' ∧ K s') (Lift B Q) := fun vs hvl hvr hrun => by
        obtain ⟨p1, p2⟩ := splice_set hr.heap hb q1 h4 h6' h7 hvl hvr hfit
        unfold Oper.wp execOp
        simp only [ho, resolve, invoke, builtin, Sem.run_bind, Sem.run_pure, Result.andThen_ok, List.map_toArray, List.map_cons, List.map_nil, hsv, hyv, hrun, Oper.upon_value]
        exact ⟨S, _, _, rel_put (rel_heap hr p1 p2) o.dst (.win hk' (fun L hL _ => by rw [q1] at hL; cases hL; exact ⟨_, rfl, rfl⟩)), hK _ h⟩
      by_cases hm : m = 0
      · subst hm
        have : src = [] := List.eq_nil_of_length_eq_zero (by rw [hsl, Nat.zero_mul])
        subst this
        refine fin [] rfl (fun j x h => by simp at h) ?_
        rw [run_append_none (P := P) w t o.type e i h2 g1 _ A len cap c (by omega)]
        have : (cur.toList.take (len * ed.size) ++ [] ++ cur.toList.drop (len * ed.size + ([] : List Value).length)).toArray = cur := by simp
        rw [this, setRow_self w g' cur ty (0, 0) h4]; rfl
      · obtain ⟨b, off', rfl, hcell⟩ := hyc hm
        obtain ⟨vs, l1, l2, l3, l4⟩ := src_vals hr.heap.live hcell hsol
        refine fin vs l1 l4 ?_
        have hst := run_storeCells_at P g' (len * i.size) ty vs 0 cur w h4 (by rw [g3]; omega) l3
        have hf := run_firstCells_some (P := P) w i.size m ⟨b, off', none⟩ m c vs (by rw [l1, hsl, g3]) l2
        simp only [Nat.add_zero] at hst
        rw [← g3]
        simp [Builtin.append_, run_underlying h2, sizeOf, typeInfo, g1, Builtin.lenOf, hroom, hf, Addr.add_lit, hst]

theorem d_append_win (hT : TOk P T) {t e : TypeId} {d ed : TD} {s y : Operand} {k len cap m : Nat} {cs src : List AV} (hw : awantedL ops ts o = some true) (ho : o.op = .call ⟨.builtin .append, #[s, y], #[t, t]⟩) (hd : T t = some d) (hk : d.kind = .slice e) (hed : T e = some ed)
    (hs : evalL ts s = .win k 0 len cap) (hb : hp[k]? = some (some (.var cs))) (hsrc : Src hp (evalL ts y) m src) (hsl : src.length = m * ed.size) (hsol : ∀ z ∈ src, solid hp z = true) (hroom : len + m ≤ cap) (hfit : len * ed.size + src.length ≤ cs.length)
    (hh : hp.set k (some (.var (splice (len * ed.size) src cs))) = hp') (ht : putL ts o.dst (.win k 0 (len + m) cap) = ts') (h : AOps P B ops Q rest ⟨ts', hp', ds⟩) : AOps P B ops Q (o :: rest) ⟨ts, hp, ds⟩ := by
  refine aops_append_win (st := ⟨ts, hp, ds⟩) hT hw ho hd hk hed hs hb hsrc hsl hsol hroom hfit ?_
  subst hh; subst ht
  cases hd : o.dst <;> (simp only [putL, hd] at h; simp only [ASt.put]; exact h)

/-- clear(s), s a window: what it held is forgotten. -/
theorem aops_clear_win (hT : TOk P T) {t e : TypeId} {d ed : TD} {s : Operand} {k off len cap : Nat} {cs : List AV} (hw : awanted ops st o = some true) (ho : o.op = .call ⟨.builtin .clear, #[s], #[t]⟩) (hd : T t = some d) (hk : d.kind = .slice e) (hed : T e = some ed) (hdst : o.dst = none)
    (hs : st.eval s = .win k off len cap) (hb : st.heap[k]? = some (some (.var cs))) (hfit : len ≠ 0 → off + len * ed.size ≤ cs.length)
    (h : AOps P B ops Q rest { st with heap := st.heap.set k (some (.var (splice off (List.replicate (len * ed.size) .any) cs))) }) (h0 : len = 0 → splice off (List.replicate (len * ed.size) .any) cs = cs) : AOps P B ops Q (o :: rest) st :=
  aops_step hw fun K hK S φ a w hr => by
    obtain ⟨it, ut, h1, h2, h3, _, h5, _⟩ := hT.get hd
    rw [hk] at h5
    rw [kind_slice h5] at h2
    obtain ⟨i, ut', g1, g2, g3, g4, g5, z, gz, gzo, gzl⟩ := hT.get hed
    have hzr := zeroOk_rep gzo w S φ
    have hzs : z.cells.size = ed.size := by have := hzr.1; simp at this; omega
    have e1 := rel_eval (st := st) hr.tmps s
    rw [hs] at e1
    obtain ⟨_, g, q1, q2⟩ := hr.heap.live k _ hb
    generalize hsv : a.eval s = v at e1
    cases e1 with
    | win hk' hv =>
      obtain ⟨g', e1, rfl⟩ := hv _ q1 rfl
      simp only [Blk.loc] at e1
      subst e1
      obtain ⟨hnS, cur, ty, h4, h5', h6, h7⟩ := q2
      have h6' : cur.size = cs.length := h6
      have hputs : a.put o.dst (.tuple #[]) = a := by rw [hdst]; rfl
      unfold Oper.wp execOp
      simp only [ho, resolve, invoke, builtin, Sem.run_bind, Sem.run_pure, Result.andThen_ok, List.map_toArray, List.map_cons, List.map_nil, hsv]
      by_cases hl : len = 0
      · subst hl
        have hrun : (Builtin.clear_ #[t] o.type #[.slice (some ⟨g', off, none⟩) 0 cap]).run P w = .ok (.tuple #[]) w := by simp [Builtin.clear_, run_underlying h2]
        rw [hrun]
        simp only [Result.andThen_ok, Oper.upon_value, hputs]
        rw [h0 rfl, list_set_same _ _ _ hb] at h
        exact ⟨S, φ, _, hr, hK _ h⟩
      · have hfit := hfit hl
        obtain ⟨vs, hvs⟩ : ∃ vs, vs = (Builtin.zeroCells z.cells len).toList := ⟨_, rfl⟩
        have hvl : vs.length = (List.replicate (len * ed.size) AV.any).length := by rw [hvs]; simp [size_zeroCells, hzs]
        have hone : ∀ u ∈ vs, u.oneCell' = true := fun u hu => by
          rw [hvs] at hu
          simp only [Builtin.zeroCells, Array.toList_map, List.mem_map] at hu
          obtain ⟨q, hq, rfl⟩ := hu
          simp at hq
          have hpos : 0 < z.cells.size := by
            rcases Nat.eq_zero_or_pos z.cells.size with h | h
            · rw [h] at hq; simp at hq
            · exact h
          have hlt : q % z.cells.size < z.cells.size := Nat.mod_lt _ hpos
          rw [getElem!_pos z.cells _ hlt]
          exact hzr.2.1 _ (by simp)
        have hst := run_storeCells_at P g' off ty vs 0 cur w h4 (by rw [hvl, h6']; simpa using hfit) hone
        simp only [Nat.add_zero] at hst
        obtain ⟨p1, p2⟩ := splice_set hr.heap hb q1 h4 h6' h7 hvl (fun j x hj => by
          rw [List.getElem?_replicate] at hj
          split at hj
          · cases hj; exact .any
          · cases hj) (by simpa using hfit)
        obtain ⟨n, rfl⟩ : ∃ n, len = n + 1 := ⟨len - 1, by omega⟩
        have hrun : (Builtin.clear_ #[t] o.type #[.slice (some ⟨g', off, none⟩) (n + 1) cap]).run P w = .ok (.tuple #[]) (w.setRow g' (cur.toList.take off ++ vs ++ cur.toList.drop (off + vs.length)).toArray) := by
          have hv : (zeroValue e).run P w = .ok z w := by simp [zeroValue, typeInfo, g1, gz]
          rw [hvs] at hst
          simp [Builtin.clear_, run_underlying h2, hv, hst, hvs]
        rw [hrun]
        simp only [Result.andThen_ok, Oper.upon_value, hputs]
        exact ⟨S, φ, _, rel_heap hr p1 p2, hK _ h⟩

/-- slices.overlaps, of two blocks of the call's own. -/
theorem aops_overlaps {f : FuncId} {fn : Func} {t tr e : TypeId} {x y : Operand} {tys : Array TypeId} {k1 k2 off lb cb sz' : Nat} {e' : TypeId} {ys : List (List AV)} {cs : List AV} (hw : awanted ops st o = some true) (ho : o.op = .call ⟨.value (.func f), #[x, y], tys⟩)
    (hf : P.funcs[f]? = some fn) (hname : (fn.name == "runtime.NumGoroutine") = false) (hbody : fn.body.isNone = true) (hn : Extern.findNext fn = none) (he : Extern.find fn = some (Extern.SlicesOverlaps.overlaps #[t, t] #[tr])) (hT : TOk P T) {d ed : TD} (hd : T t = some d) (hk : d.kind = .slice e) (hed : T e = some ed)
    (hx : st.eval x = .own k1 ys.length) (hbx : st.heap[k1]? = some (some (.row ys sz' e'))) (hne : ys ≠ []) (hy : st.eval y = .win k2 off lb cb) (hby : st.heap[k2]? = some (some (.var cs))) (h12 : k1 ≠ k2) (hcs : cs.length ≠ 0)
    (h : AOps P B ops Q rest (st.put o.dst (.bool false))) : AOps P B ops Q (o :: rest) st :=
  aops_step hw fun K hK S φ a w hr => by
    obtain ⟨it, ut, h1, h2, h3, _, h5, _⟩ := hT.get hd
    rw [hk] at h5
    rw [kind_slice h5] at h2
    have e1 := rel_eval (st := st) hr.tmps x
    have e2 := rel_eval (st := st) hr.tmps y
    rw [hx] at e1
    rw [hy] at e2
    obtain ⟨_, g, q1, q2⟩ := hr.heap.live k1 _ hbx
    obtain ⟨_, g', p1, p2⟩ := hr.heap.live k2 _ hby
    generalize hxv : a.eval x = v at e1
    generalize hyv : a.eval y = u at e2
    cases e1 with
    | own hk' hle hv =>
      cases e2 with
      | win hk2 hv2 =>
        obtain ⟨g2, r1, rfl⟩ := hv2 _ p1 rfl
        simp only [Blk.loc] at r1
        subst r1
        have hat := hv _ q1 rfl
        cases g with
        | none => obtain ⟨_, _, h⟩ := q2; cases h; exact absurd rfl hne
        | some g =>
          obtain ⟨cap, us, rfl, c1, c2, c3⟩ := hat
          obtain ⟨_, us2, ty2, w4, w5, w6, w7⟩ := p2
          have hgg : g ≠ g2 := fun e => by subst e; exact h12 (hr.heap.inj k1 k2 g _ _ q1 p1 rfl rfl)
          have hszr : ∀ w, (Go.sizeOf e).run P w = .ok ed.size w := fun w => run_sizeT hT hed w
          have hk2 : us2.size ≠ 0 := by
            have : us2.size = cs.length := w6
            omega
          have hov := Lib.run_overlaps_apart (P := P) w t tr e h2 ed.size hszr ⟨g, 0, none⟩ ⟨g2, off, none⟩ ys.length cap lb cb hgg _ _ _ _ (by simp only [World.shape?, c2]; rfl) (by simp only [World.shape?, w4]; rfl) hk2 (by simp [World.frozen?, c2]) (by simp [World.frozen?, c2])
          have hcall := run_callFunc_extern (P := P) hf hname hbody hn he #[.slice (some ⟨g, 0, none⟩) ys.length cap, .slice (some ⟨g2, off, none⟩) lb cb] w
          rw [hov] at hcall
          simp only [Result.andThen_ok] at hcall
          have hfx : a.eval (.func f) = .func (.func f) #[] #[] := rfl
          unfold Oper.wp execOp
          simp only [ho, resolve, hfx, Deferred.ofValue, Sem.run_bind, Sem.run_pure, Result.andThen_ok, invoke, List.map_toArray, List.map_cons, List.map_nil, hxv, hyv, Array.empty_append, Array.append_empty, List.append_toArray, List.nil_append, List.append_nil, Blk.loc, Blk.n]
          rw [hcall]
          exact ⟨S, φ, _, rel_put (st := st) hr o.dst (.bool false), hK _ h⟩

theorem d_overlaps {f : FuncId} {fn : Func} {t tr e : TypeId} {x y : Operand} {tys : Array TypeId} {k1 k2 off lb cb sz' : Nat} {e' : TypeId} {ys : List (List AV)} {cs : List AV} (hw : awantedL ops ts o = some true) (ho : o.op = .call ⟨.value (.func f), #[x, y], tys⟩)
    (hf : P.funcs[f]? = some fn) (hname : (fn.name == "runtime.NumGoroutine") = false) (hbody : fn.body.isNone = true) (hn : Extern.findNext fn = none) (he : Extern.find fn = some (Extern.SlicesOverlaps.overlaps #[t, t] #[tr])) (hT : TOk P T) {d ed : TD} (hd : T t = some d) (hk : d.kind = .slice e) (hed : T e = some ed)
    (hx : evalL ts x = .own k1 ys.length) (hbx : hp[k1]? = some (some (.row ys sz' e'))) (hne : ys ≠ []) (hy : evalL ts y = .win k2 off lb cb) (hby : hp[k2]? = some (some (.var cs))) (h12 : k1 ≠ k2) (hcs : cs.length ≠ 0)
    (ht : putL ts o.dst (.bool false) = ts') (h : AOps P B ops Q rest ⟨ts', hp, ds⟩) : AOps P B ops Q (o :: rest) ⟨ts, hp, ds⟩ := by
  refine aops_overlaps (st := ⟨ts, hp, ds⟩) hw ho hf hname hbody hn he hT hd hk hed hx hbx hne hy hby h12 hcs ?_
  subst ht
  cases hd : o.dst <;> (simp only [putL, hd] at h; simp only [ASt.put]; exact h)
theorem d_clear_win (hT : TOk P T) {t e : TypeId} {d ed : TD} {s : Operand} {k off len cap : Nat} {cs : List AV} (hw : awantedL ops ts o = some true) (ho : o.op = .call ⟨.builtin .clear, #[s], #[t]⟩) (hd : T t = some d) (hk : d.kind = .slice e) (hed : T e = some ed) (hdst : o.dst = none)
    (hs : evalL ts s = .win k off len cap) (hb : hp[k]? = some (some (.var cs))) (hfit : len ≠ 0 → off + len * ed.size ≤ cs.length) (h0 : len = 0 → splice off (List.replicate (len * ed.size) .any) cs = cs)
    (hh : hp.set k (some (.var (splice off (List.replicate (len * ed.size) .any) cs))) = hp') (h : AOps P B ops Q rest ⟨ts, hp', ds⟩) : AOps P B ops Q (o :: rest) ⟨ts, hp, ds⟩ := by
  subst hh
  exact aops_clear_win (st := ⟨ts, hp, ds⟩) hT hw ho hd hk hed hdst hs hb hfit h h0
theorem c_freeze_win {c : Code} (i k off sz cap : Nat) {cs : List AV} {rows : List (List AV)} (hi : ts[i]? = some (.win k off rows.length cap)) (hk : hp[k]? = some (some (.var cs))) (hrow : ∀ el ∈ rows, el.length = sz) (hcs : ∀ (j : Nat) (x : AV), rows.flatten[j]? = some x → cs[off + j]? = some x) (hcap : rows.length ≤ cap) (hu : ∀ el ∈ rows, AV.underL 0 el = true)
    (hn : B.n ≤ hp.length) (hts : ts.set i (.list rows) = ts') (hh : hp.set k none = hp') (h : AWp P B c Q ⟨ts', hp', ds⟩) : AWp P B c Q ⟨ts, hp, ds⟩ := by
  subst hts; subst hh
  exact awp_sweak (sweak_freeze_win i k off sz cap hi hk hrow hcs hcap hu) (by simpa using hn) h
theorem head_bslice {ρ : Operand → AV} (hT : TOk P T) {t e : TypeId} {d ed : TD} {len : Nat} {parts : Array (Nat × Operand)} (k : Nat) (ho : o.op = .buildSlice t len parts) (hd : T t = some d) (hk : d.kind = .slice e) (hed : T e = some ed)
    (hidx : parts.toList.map (·.1) = List.range len) (hsz : parts.toList.all (fun q => Nat.beq (ρ q.2).cellsOf.length ed.size) = true) (hsol : parts.toList.all (fun q => (ρ q.2).cellsOf.all (solid hp)) = true) (hbig : Nat.ble (len * ed.size) (2 ^ 24) = true) {row : List (List AV)} (hrow : parts.toList.map (fun q => (ρ q.2).cellsOf) = row) :
    AHead P o ρ hp (.own k len) (some (k, .row row ed.size e)) := hrow ▸ head_buildSlice hT k ho hd hk hed hidx (fun q hq => Nat.eq_of_beq_eq_true (List.all_eq_true.1 hsz q hq)) hsol (Nat.le_of_ble_eq_true hbig)
theorem c_learn' {c : Code} (i k sz : Nat) {e : TypeId} {xs : List (List AV)} (hi : ts[i]? = some (.own k xs.length)) (hk : hp[k]? = some (some (.row xs sz e))) (hne : xs ≠ [])
    (h : ∀ c', xs.length ≤ c' → ∀ cells, cells = xs.flatten ++ List.replicate ((c' - xs.length) * sz) .any → AWp P B c Q ⟨ts.set i (.win hp.length 0 xs.length c'), hp.set k none ++ [some (.var cells)], ds⟩) : AWp P B c Q ⟨ts, hp, ds⟩ :=
  c_learn i k sz hi hk hne fun c' hc => h c' hc _ rfl
theorem d_append_zeros' (hT : TOk P T) {t tn e : TypeId} {d dn ed : TD} {s y : Operand} {kn kq : IntKind} {k off len cap q : Nat} {cs : List AV} (hw : awantedL ops ts o = some true) (ho : o.op = .call ⟨.builtin .append, #[s, y], #[t, tn]⟩) (hd : T t = some d) (hk : d.kind = .slice e) (hed : T e = some ed) (hdn : T tn = some dn) (hkn : dn.kind = .int kn)
    (hs : evalL ts s = .win k off len cap) (hb : hp[k]? = some (some (.var cs))) (hy : evalL ts y = .int kq q) (hq : 0 < q) (hsz : 0 < ed.size) (hlen : off + len * ed.size ≤ cs.length) (hroom : cap < len + q) (h63 : len + q ≤ 9223372036854775807) (hby : (len + q) * ed.bytes ≤ 140737488355328)
    (h : ∀ c', len + q ≤ c' → ∀ cells, cells = (cs.drop off).take (len * ed.size) ++ List.replicate ((c' - len) * ed.size) .any → AOps P B ops Q rest ⟨putL ts o.dst (.win hp.length 0 (len + q) c'), hp ++ [some (.var cells)], ds⟩) : AOps P B ops Q (o :: rest) ⟨ts, hp, ds⟩ :=
  d_append_zeros hT hw ho hd hk hed hdn hkn hs hb hy hq hsz hlen hroom h63 hby fun c' hc => h c' hc _ rfl
theorem head_len_own {ρ : Operand → AV} (hT : TOk P T) {t e e' : TypeId} {d : TD} {x : Operand} {k sz : Nat} {xs : List (List AV)} (ho : o.op = .call ⟨.builtin .len, #[x], #[t]⟩) (hd : T t = some d) (hk : d.kind = .slice e) (hx : ρ x = .own k xs.length) (hb : hp[k]? = some (some (.row xs sz e'))) : AHead P o ρ hp (.int .i64 xs.length) none := head_ro fun w S φ a hl hev => by
  have e1 := hev x (by simp [ho, Op.operands, Call.operands])
  rw [hx] at e1
  obtain ⟨it, ut, h1, h2, h3, _, h5, _⟩ := hT.get hd
  rw [hk] at h5
  rw [kind_slice h5] at h2
  obtain ⟨_, g, q1, q2⟩ := hl k _ hb
  generalize hxv : a.eval x = v at e1
  cases e1 with
  | own hk' hle hv =>
    have hat := hv _ q1 rfl
    obtain ⟨A, cap, rfl⟩ : ∃ A cap, v = .slice A xs.length cap := by
      cases g with
      | none => obtain ⟨hn, A, rfl⟩ := hat; simp [Blk.loc, Blk.n] at hn; exact ⟨A, 0, by simp [hn]⟩
      | some g => obtain ⟨cap, cs, rfl, c1, _⟩ := hat; exact ⟨_, cap, rfl⟩
    refine ⟨.int .i64 xs.length, ?_, .int _ _⟩
    unfold execOp
    simp only [ho, resolve, invoke, builtin, Sem.run_bind, Sem.run_pure, Result.andThen_ok, List.map_toArray, List.map_cons, List.map_nil, hxv]
    simp [Builtin.len_, run_underlying h2, goInt]
theorem src_wine0 {hp : AHeap} {k l sz m cap c : Nat} {cs : List AV} (hk : hp[k]? = some (some (.var cs))) (hm : cap = l → m = 0) : Src hp (.win k (if cap = l then 0 else 0 + l * sz) m c) m ((cs.drop (l * sz)).take (m * sz)) := by
  have := src_wine (off := 0) (sz := sz) (c := c) hk hm
  rw [Nat.zero_add] at this ⊢
  exact this
/-- A bound that is only looked at, and the room it asks for. -/
theorem head_slice_any3 {ρ : Operand → AV} (hT : TOk P T) {t e : TypeId} {d ed : TD} {p lo hi mx : Operand} {k sz : Nat} {xs : List (List AV)} {k1 k2 k3 : IntKind} {l h m : Int} (ho : o.op = .slice t p (some lo) (some hi) (some mx)) (hd : T t = some d) (hk : d.kind = .slice e) (hed : T e = some ed)
    (hx : ρ p = .own k xs.length) (hb : hp[k]? = some (some (.row xs sz e))) (hlo : ρ lo = .int k1 l) (hhi : ρ hi = .int k2 h) (hmx : ρ mx = .int k3 m) (h0 : 0 ≤ l) (hlh : l ≤ h) (hhm : h ≤ m) (hml : m ≤ xs.length) : AHead P o ρ hp .any none := head_ro fun w S φ a hl hev => by
  have e1 := hev p (by simp [ho, Op.operands])
  rw [hx] at e1
  have v1 := hev lo (by simp [ho, Op.operands])
  have v2 := hev hi (by simp [ho, Op.operands])
  have v3 := hev mx (by simp [ho, Op.operands])
  rw [hlo] at v1
  rw [hhi] at v2
  rw [hmx] at v3
  have v1 := rep_int_inv v1
  have v2 := rep_int_inv v2
  have v3 := rep_int_inv v3
  obtain ⟨it, ut, h1, h2, h3, _, h5, _⟩ := hT.get hd
  rw [hk] at h5
  rw [kind_slice h5] at h2
  have hs := run_sizeT hT hed w
  obtain ⟨_, g, q1, q2⟩ := hl k _ hb
  generalize hpv : a.eval p = v at e1
  cases e1 with
  | own hk' hle hv =>
    have hat := hv _ q1 rfl
    obtain ⟨A, cap, rfl, hc⟩ : ∃ A cap, v = .slice A xs.length cap ∧ xs.length ≤ cap := by
      cases g with
      | none => obtain ⟨hn, A, rfl⟩ := hat; simp [Blk.loc, Blk.n] at hn; exact ⟨A, 0, by simp [hn], by simp [hn]⟩
      | some g => obtain ⟨cap, cs, rfl, c1, _⟩ := hat; exact ⟨_, cap, rfl, c1⟩
    have b1 := run_sliceBound (P := P) (w := w) (k := k3) (code := .slice3Acap) (show 0 ≤ m by omega) (show m ≤ (cap : Int) by omega)
    have b2 := run_sliceBound (P := P) (w := w) (k := k2) (code := .slice3B) (show 0 ≤ h by omega) (show h ≤ (m.toNat : Int) by omega)
    have b3 := run_sliceBound (P := P) (w := w) (k := k1) (code := .slice3C) h0 (show l ≤ (h.toNat : Int) by omega)
    have hbh : (Instr.sliceBounds true xs.length cap (some (.int k1 l)) (some (.int k2 h)) (some (.int k3 m))).run P w = .ok (l.toNat, h.toNat, m.toNat) w := by
      simp [Instr.sliceBounds, b1, b2, b3]
    refine ⟨.slice (if m.toNat = l.toNat then A else A.map (·.add (l.toNat * ed.size))) (h.toNat - l.toNat) (m.toNat - l.toNat), ?_, .any⟩
    unfold execOp
    simp only [ho, Option.map_some, v1, v2, v3, hpv]
    unfold Instr.sliceAt Instr.slice
    simp only [Sem.run_bind, run_underlying h2, Result.andThen_ok, hbh, hs, Sem.run_pure]
/-- A function that is handed blocks. -/
theorem d_intro_h {f : FuncId} {fn : Func} {c : Code} {args : List AV} {out : AOut} {h h' : AHeap} (hf : P.funcs[f]? = some fn) (hb : fn.body = some c) (hn : (fn.name == "runtime.NumGoroutine") = false) (hok : h'.ok) (hlen : h.length ≤ h'.length) (hts : args ++ List.replicate (fn.ntmps - args.length) .undef = ts)
    (H : ∀ B : Base, B.n = h.length → AWp P B c (QFun P fn out h') ⟨ts, h, []⟩) : ACall P f args h out h' := acall_intro hf hb hn hok hlen (by subst hts; exact H)
theorem head_eq {ρ : Operand → AV} {x y : AV} {nb : Option (Nat × Blk)} (h : AHead P o ρ hp x nb) (e : x = y) : AHead P o ρ hp y nb := e ▸ h
theorem qfun_of {fn : Func} {x r : AV} {st : ASt} {h' : AHeap} (l : AHeap) (hd : st.defs = []) (hx : aresult fn st = some x) (hw : Weak x r) (hh : st.heap = h' ++ l) (hu : AV.under h'.length r = true) : QFun P fn (.ret r) h' .ret st := ⟨hd, x, r, l, ares_tmps hx, hw, rfl, hh, hu⟩
theorem ok_row {xs : List (List AV)} {sz : Nat} {e : TypeId} (h : AV.underL 0 xs.flatten = true) : AHeap.ok [some (.row xs sz e)] := fun k B hk => by
  have hlt := (List.getElem?_eq_some_iff.1 hk).1
  have : k = 0 := by simp at hlt; exact hlt
  subst this
  simp at hk; subst hk
  have mono : ∀ (n m : Nat) (xs : List AV), n ≤ m → AV.underL n xs = true → AV.underL m xs = true := fun n m xs hnm h => underL_mono hnm xs h
  exact mono 0 _ _ (Nat.zero_le _) h
end rules
end Go.Proofs.Ytpckfpahmnhfcaa.G
