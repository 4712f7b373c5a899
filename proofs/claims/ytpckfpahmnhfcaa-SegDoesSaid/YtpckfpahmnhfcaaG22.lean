/- The ghost machine: rules that go beside plain functions, continued: own slices, arrays at open places, nil told as the empty list, structs as results. -/
import Derived.Test.YtpckfpahmnhfcaaG21
namespace Go.Proofs.Ytpckfpahmnhfcaa.G
open Go Go.RowKit
set_option linter.unusedVariables false
set_option linter.unusedSimpArgs false

section nilapp
variable {P : Program} {T : TT} {B : Base} {Q : AExit → ASt → Prop} {st : ASt} {ops : Array Oper} {o : Oper} {rest : List Oper}
/-- append(nil, y...): a new slice of the call's own. -/
theorem aops_append_nil (hT : TOk P T) {t e : TypeId} {d ed : TD} {s y : Operand} {sz : Nat} {ys : List (List AV)} (hw : awanted ops st o = some true) (ho : o.op = .call ⟨.builtin .append, #[s, y], #[t, t]⟩) (hd : T t = some d) (hk : d.kind = .slice e) (hed : T e = some ed)
    (hs : st.eval s = .nilsl) (hsz : sz = ed.size) (hy : srcOf (st.heap ++ [some (.row [] sz e)]) (st.eval y) = some ys) (hev : ∀ el ∈ ys, el.length = ed.size) (hsol : ∀ el ∈ ys, el.all (solid (st.heap ++ [some (.row [] sz e)])) = true)
    (h63 : ys.length ≤ 9223372036854775807) (hby : ys.length * ed.bytes ≤ 140737488355328)
    (h : AOps P B ops Q rest (({ st with heap := st.heap ++ [some (.row ys sz e)] } : ASt).put o.dst (.own st.heap.length ys.length))) : AOps P B ops Q (o :: rest) st :=
  aops_step hw fun K hK S φ0 a w hr0 => by
    obtain ⟨k0, hk0⟩ : ∃ k0, k0 = st.heap.length := ⟨_, rfl⟩
    obtain ⟨gh1, gh2⟩ := hrel_ghost hr0.heap sz e
    obtain ⟨φ, hφ⟩ : ∃ φ, φ = updPhi φ0 st.heap.length (some ⟨none, 0, sz, e⟩) := ⟨_, rfl⟩
    rw [← hφ] at gh1 gh2
    obtain ⟨st1, hst1⟩ : ∃ st1 : ASt, st1 = ⟨st.tmps, st.heap ++ [some (.row [] sz e)], st.defs⟩ := ⟨_, rfl⟩
    have hr : Rel B S φ st1 a w := by subst hst1; exact ⟨gh1, hr0.tmps.step gh2.step, hr0.defs.step gh2.step, hr0.ext.trans gh2⟩
    obtain ⟨xs, hxs⟩ : ∃ xs : List (List AV), xs = [] := ⟨_, rfl⟩
    have hb : st1.heap[k0]? = some (some (.row xs sz e)) := by subst hst1; subst hk0; subst hxs; simp
    have hy : srcOf st1.heap (st1.eval y) = some ys := by subst hst1; exact hy
    have hsol1 : ∀ el ∈ ys, el.all (solid st1.heap) = true := by subst hst1; exact hsol
    have h63 : xs.length + ys.length ≤ 9223372036854775807 := by subst hxs; simpa using h63
    have hby : (xs.length + ys.length) * ed.bytes ≤ 140737488355328 := by subst hxs; simpa using hby
    have h : AOps P B ops Q rest (({ st1 with heap := st1.heap.set k0 (some (.row (xs ++ ys) sz e)) } : ASt).put o.dst (.own k0 (xs ++ ys).length)) := by
      subst hst1; subst hk0; subst hxs
      have e0 : (st.heap ++ [some (Blk.row [] sz e)]).set st.heap.length (some (.row ([] ++ ys) sz e)) = st.heap ++ [some (.row ys sz e)] := by simp
      rw [List.nil_append] at e0 ⊢
      rw [e0]
      exact h
    obtain ⟨it, ut, h1, h2, h3, _, h5, _⟩ := hT.get hd
    rw [hk] at h5
    rw [kind_slice h5] at h2
    obtain ⟨i, ut', g1, g2, g3, g4, g5, z, gz, gzo, gzl⟩ := hT.get hed
    have hzs : z.cells.size = i.size := by have := (zeroOk_rep gzo w S φ).1; simp at this; omega
    have e0 := rel_eval (st := st) hr0.tmps s
    rw [hs] at e0
    have e1 : Rep w S φ (a.eval s) (.own k0 xs.length) := by
      subst hxs
      generalize a.eval s = v at e0
      cases e0
      exact .own (by subst hφ; subst hk0; simp [updPhi]) (fun L hL => Nat.zero_le _) (fun L hL hn => by subst hφ; subst hk0; simp [updPhi] at hL; subst hL; exact ⟨rfl, _, rfl⟩) ⟨_, _, _, rfl⟩
    have e2 := rel_eval (st := st1) hr.tmps y
    obtain ⟨A, c, hyv, hyc, hyr⟩ := src_rep hr.heap.live e2 hy
    obtain ⟨hevx, g, q1, q2⟩ := hr.heap.live k0 _ hb
    have hsz' : sz = i.size := hsz.trans g3.symm
    subst hsz'
    unfold Oper.wp execOp
    simp only [ho, resolve, invoke, builtin, Sem.run_bind, Sem.run_pure, Result.andThen_ok, List.map_toArray, List.map_cons, List.map_nil, hyv]
    generalize hsv : a.eval s = v at e1
    cases e1 with
    | own hk' hle hv' =>
      have hat := hv' _ q1 rfl
      by_cases hne : ys = []
      · subst hne
        obtain ⟨base, cap, hvv, hcap⟩ : ∃ base cap, v = .slice base xs.length cap ∧ xs.length ≤ cap := by
          cases g with
          | none => obtain ⟨hx0, A, rfl⟩ := hat; exact ⟨A, 0, by simp [Blk.loc, Blk.n] at hx0; simp [hx0], by simp [Blk.loc, Blk.n] at hx0; simp [hx0]⟩
          | some g => obtain ⟨cap, cur, rfl, hc, _⟩ := hat; exact ⟨_, cap, rfl, hc⟩
        have hrn := run_append_none (P := P) w t o.type e i h2 g1 base A xs.length cap c hcap
        rw [hvv, List.length_nil, hrn]
        simp only [Result.andThen_ok, Oper.upon_value]
        rw [List.append_nil, list_set_same _ _ _ hb] at h
        exact ⟨S, φ, _, rel_put (st := st1) hr o.dst (.own hk' hle (fun L hL hn => hvv ▸ hv' L hL hn) ⟨_, _, _, rfl⟩), hK _ h⟩
      · obtain ⟨b, off, rfl, hcell⟩ := hyr hne
        have hcell' : ∀ (j : Nat) (x : AV), ys.flatten[j]? = some x → ∃ u, w.cell? ⟨b, off + j, none⟩ = some u ∧ u.oneCell' = true ∧ Rep w S φ u x := fun j x hj => by
          obtain ⟨u, c1, c2⟩ := hcell j x hj
          obtain ⟨el, hel, hx⟩ := List.mem_flatten.1 (List.mem_of_getElem? hj)
          exact ⟨u, c1, solid_one hr.heap.live c2 (List.all_eq_true.1 (hsol1 el hel) x hx), c2⟩
        obtain ⟨w', g', cap, cs, r1, r2, r3, r4, r5, r6, r7, r8, r9, r10, r11⟩ := append_run (P := P) (ty := o.type) (c := c) h2 g1 gz hzs hat q2 hevx hne hcell' (fun el hel => (hev el hel).trans g3.symm) h63 (by rw [g4]; exact hby)
        rw [r1]
        simp only [Result.andThen_ok, Oper.upon_value]
        have hlen : (xs ++ ys).length = xs.length + ys.length := List.length_append
        obtain ⟨p1, p2⟩ := hrel_grow hr.heap hb q1 (xs' := xs ++ ys) (by rw [hlen]; have := List.length_pos_iff.2 hne; omega) r2 r3 r4 r5 r6 r7 r8 (fun el hel => by
          rcases List.mem_append.1 hel with h | h
          · exact hevx el h
          · exact (hev el h).trans g3.symm) ⟨cap, by rw [hlen]; exact r9, r10⟩ r11
        refine ⟨S, _, _, rel_put (rel_heap hr p1 p2) o.dst (.own (by simp [updPhi]) (fun L hL => by simp [updPhi] at hL; subst hL; exact Nat.le_refl _) (fun L hL hn => by
          simp [updPhi] at hL; subst hL
          exact ⟨cap, cs, by simp only [Blk.loc, Blk.n, hlen], by simp only [Blk.loc, Blk.n, hlen]; exact r9, r8, r10⟩) ⟨_, _, _, rfl⟩), hK _ h⟩


end nilapp

/-! ### nil told as the empty list -/
mutual
def AV.nrm : AV → AV
  | .nilsl => .list []
  | .agg cs => .agg (AV.nrmL cs)
  | .tuple cs => .tuple (AV.nrmL cs)
  | x => x
def AV.nrmL : List AV → List AV
  | [] => []
  | x :: xs => AV.nrm x :: AV.nrmL xs
end
mutual
theorem nrm_weak : ∀ x : AV, Weak x x.nrm
  | .nilsl => by unfold AV.nrm; exact Weak.nil
  | .agg cs => by unfold AV.nrm; exact Weak.agg (nrmL_weak cs)
  | .tuple cs => by unfold AV.nrm; exact Weak.tuple (nrmL_weak cs)
  | .any | .undef | .bool _ | .int _ _ | .str _ | .list _ | .own _ _ | .ptr _ _ | .rptr _ _ _ _ | .win _ _ _ _ | .nilptr | .fptr _ | .fn _ _ _ | .nilfn | .iface _ _ | .nilIface => by unfold AV.nrm; exact Weak.refl _
theorem nrmL_weak : ∀ xs : List AV, WeakL xs (AV.nrmL xs)
  | [] => by unfold AV.nrmL; exact .nil
  | x :: xs => by unfold AV.nrmL; exact .cons (nrm_weak x) (nrmL_weak xs)
end
theorem weak_nrm {x y : AV} (h : x.nrm = y) : Weak x y := h ▸ nrm_weak x

/-- Variables forgotten (0), kept (1), nil told as the empty list (2). -/
def fgt : List Nat → List AV → List AV
  | m :: ms, x :: xs => (match m with | 0 => .any | 1 => x | _ => x.nrm) :: fgt ms xs
  | _, xs => xs
theorem weakL_fgt : ∀ (ms : List Nat) (xs : List AV), WeakL xs (fgt ms xs)
  | [], xs => by unfold fgt; exact WeakL.refl xs
  | _ :: _, [] => by unfold fgt; exact .nil
  | 0 :: ms, x :: xs => .cons (Weak.any x) (weakL_fgt ms xs)
  | 1 :: ms, x :: xs => .cons (Weak.refl x) (weakL_fgt ms xs)
  | (n + 2) :: ms, x :: xs => .cons (nrm_weak x) (weakL_fgt ms xs)
theorem sweak_fgt (ms : List Nat) {ts ts' : List AV} {h : AHeap} {ds : List (FuncId × List AV)} (he : fgt ms ts = ts') : SWeak ⟨ts, h, ds⟩ ⟨ts', h, ds⟩ := by
  subst he; exact sweak_tmps (weakL_fgt ms ts)
/-- The last blocks are lost. -/
theorem sweak_cut {ts : List AV} {h h' : AHeap} (n : Nat) (he : h.take n = h') (hok : AHeap.ok h') (hu : AV.underL h'.length ts = true) : SWeak ⟨ts, h, []⟩ ⟨ts, h', []⟩ := by
  subst he; exact sweak_drop n hok hu

theorem WeakL.get' {xs rs : List AV} (h : WeakL xs rs) (j : Nat) (r : AV) (hj : rs[j]? = some r) : ∃ x, xs[j]? = some x ∧ Weak x r := h.get j r hj
theorem hrel_weak_var {w : World} {S : Nat → Prop} {φ : Phi} {h : AHeap} (hh : HRel w S φ h) {k : Nat} {cs cs' : List AV} (hk : h[k]? = some (some (.var cs))) (hw : WeakL cs cs') : HRel w S φ (h.set k (some (.var cs'))) := by
  have hkl : k < h.length := (List.getElem?_eq_some_iff.1 hk).1
  refine ⟨fun j hj => hh.dom j (by simpa using hj), fun j hj => ?_, fun j B' hj => ?_, hh.inj, hh.bound⟩
  · by_cases hjk : j = k
    · subst hjk; rw [List.getElem?_set_self hkl] at hj; cases hj
    · rw [List.getElem?_set_ne (fun e => hjk e.symm)] at hj; exact hh.dead j hj
  · by_cases hjk : j = k
    · subst hjk
      rw [List.getElem?_set_self hkl] at hj
      cases hj
      obtain ⟨h1, g, h2, h3⟩ := hh.live j _ hk
      refine ⟨trivial, g, h2, ?_⟩
      cases g with
      | none => obtain ⟨_, _, h⟩ := h3; cases h
      | some g =>
        obtain ⟨h4, us, ty, h5, h6, h7, h8⟩ := h3
        have hl := hw.length
        refine ⟨h4, us, ty, h5, by simp only [Blk.cells] at h6 ⊢; omega, by simp only [Blk.full] at h7 ⊢; omega, fun j x hj => ?_⟩
        obtain ⟨y, hy, hxy⟩ := hw.get j x hj
        exact hxy _ _ _ _ (h8 j y hy)
    · rw [List.getElem?_set_ne (fun e => hjk e.symm)] at hj; exact hh.live j B' hj
theorem sweak_var {ts : List AV} {h : AHeap} {ds : List (FuncId × List AV)} {k : Nat} {cs cs' : List AV} (hk : h[k]? = some (some (.var cs))) (hw : WeakL cs cs') : SWeak ⟨ts, h, ds⟩ ⟨ts, h.set k (some (.var cs')), ds⟩ :=
  fun B S φ a w _ hr => ⟨S, φ, hrel_weak_var hr.heap hk hw, hr.tmps, hr.defs, hr.ext⟩

/-! ### arrays -/
def inr (n : Nat) (i : Int) : Option Nat := if 0 ≤ i ∧ i < n then some i.toNat else none
theorem inr_spec {n : Nat} {i : Int} {j : Nat} (h : inr n i = some j) : 0 ≤ i ∧ i < n ∧ j = i.toNat := by
  unfold inr at h
  split at h
  · rename_i hc; cases h; exact ⟨hc.1, hc.2, rfl⟩
  · cases h
theorem inr_lt {n : Nat} {i : Int} {j : Nat} (h : inr n i = some j) : j < n := by
  obtain ⟨h1, h2, rfl⟩ := inr_spec h; omega
def encI (k : IntKind) (n : Int) : List AV := [.int k n]
def encB (b : Bool) : List AV := [.bool b]
def encS (s : ByteArray) : List AV := [.str s]
def encL {α : Type} (enc : α → List AV) (l : List α) : List AV := [.list (List.map enc l)]

section heads
variable {P : Program} {T : TT} {o : Oper} {ρ : Operand → AV} {hp : AHeap}
theorem head_index_ownm (hT : TOk P T) {α : Type} {enc : α → List AV} {L : List α} {x : α} {t e : TypeId} {d ed : TD} {p ix : Operand} {kb sz : Nat} {k : IntKind} {i : Int} (hv : idx L i = some x) (ho : o.op = .indexAddr t p ix) (hd : T t = some d) (hk : d.kind = .slice e) (hed : T e = some ed)
    (hx : ρ p = .own kb (List.map enc L).length) (hb : hp[kb]? = some (some (.row (List.map enc L) sz e))) (hsz : sz = ed.size) (hi : ρ ix = .int k i) : AHead P o ρ hp (.rptr kb (List.map enc L).length i.toNat 0) none :=
  head_index_own hT ho hd hk hed hx hb hsz hi (idx_h0 hv) (by
    have := idx_el (f := enc) hv
    have := (List.getElem?_eq_some_iff.1 this).1
    have := idx_h0 hv
    omega)
theorem head_index_arrn (hT : TOk P T) {t e : TypeId} {d ed : TD} {p ix : Operand} {n : Nat} {kb off : Nat} {cs : List AV} {k : IntKind} {i : Int} {j : Nat} (hv : inr n i = some j) (ho : o.op = .indexAddr t p ix) (hd : T t = some d) (hk : d.kind = .array n e) (hed : T e = some ed)
    (hx : ρ p = .ptr kb off) (hb : hp[kb]? = some (some (.var cs))) (hi : ρ ix = .int k i) (h1 : ed.size = 1 := by rfl) : AHead P o ρ hp (.ptr kb (off + j)) none := by
  obtain ⟨h0, hlt, rfl⟩ := inr_spec hv
  exact head_eq (head_index_arr hT ho hd hk hed hx hb hi h0 hlt) (by rw [h1, Nat.mul_one])
/-- A call whose arguments hold nil where the contract has the empty list. -/
theorem head_calln {fx : Operand} {xs : Array Operand} {ts : Array TypeId} {f : FuncId} {fs cs args args' : List AV} {r : AV} (hc : PCall P f args r) (hu : AV.underL 0 args' = true) (ho : o.op = .call ⟨.value fx, xs, ts⟩) (hf : ρ fx = .fn f fs cs)
    (ha : fs ++ xs.toList.map ρ ++ cs = args') (hn : AV.nrmL args' = args) : AHead P o ρ hp r none := by
  subst hn
  exact head_call ho hf ha hu (ACall.weak hc (nrmL_weak args'))
theorem acut_one {cs : List AV} {off : Nat} {x : AV} (h : cs[off]? = some x) : acut off 1 cs = some [x] := by
  have hlt := (List.getElem?_eq_some_iff.1 h).1
  unfold acut
  split
  · split
    · rename_i hb
      have := Nat.eq_of_beq_eq_true hb
      match cs, this with
      | [y], _ => simp at h; simp [h]
    · split
      · rename_i hb
        match cs, h with
        | y :: r, h => simp at h; simp [h]
      · rename_i hb
        have : Nat.ble 1 cs.length = true := by rw [Nat.ble_eq]; omega
        simp_all
  · rename_i off'
    have : Nat.ble (off' + 1 + 1) cs.length = true := by rw [Nat.ble_eq]; omega
    rw [this]
    simp only [Option.some.injEq]
    rw [List.take_one, List.head?_drop, h]; rfl
/-- An element of an array variable at an open place. -/
theorem head_load_at (hT : TOk P T) {t : TypeId} {d : TD} {p : Operand} {k off : Nat} {cs : List AV} {x : AV} (ho : o.op = .load t p) (hd : T t = some d) (hagg : d.kind.agg = false) (h1 : d.size = 1) (hpp : ρ p = .ptr k off) (hk : hp[k]? = some (some (.var cs))) (hx : cs[off]? = some x) : AHead P o ρ hp x none :=
  head_pure hT (by simp [apure, ho, hd, hpp, aload, hk, h1, acut_one hx, hagg])
end heads

section rules
variable {P : Program} {T : TT} {B : Base} {Q : AExit → ASt → Prop} {ops : Array Oper} {o : Oper} {rest l : List Oper} {c : Code} {ts ts' : List AV} {hp hp' : AHeap} {ds : List (FuncId × List AV)}
theorem d_nrm (k : Nat) {cs cs' : List AV} (hk : hp[k]? = some (some (.var cs))) (hn : AV.nrmL cs = cs') (hh : hp.set k (some (.var cs')) = hp') (h : AOps P B ops Q l ⟨ts, hp', ds⟩) : AOps P B ops Q l ⟨ts, hp, ds⟩ := by
  subst hn; subst hh
  exact fun S φ a w hr => h S φ a w ⟨hrel_weak_var hr.heap hk (nrmL_weak cs), hr.tmps, hr.defs, hr.ext⟩
theorem d_after {r : AV} {h' : AHeap} (ht : putL ts o.dst r = ts') (h : AOps P B ops Q rest ⟨ts', h', ds⟩) : AfterK P B ops Q o rest ts ds (.ret r) h' := by
  subst ht; exact h
theorem c_freezem {α : Type} {enc : α → List AV} {L : List α} (i k sz : Nat) {e : TypeId} (hi : ts[i]? = some (.own k (List.map enc L).length)) (hk : hp[k]? = some (some (.row (List.map enc L) sz e))) (hu : ∀ x, AV.underL 0 (enc x) = true) (hn : B.n ≤ hp.length) (hts : ts.set i (.list (List.map enc L)) = ts') (hh : hp.set k none = hp') (h : AWp P B c Q ⟨ts', hp', ds⟩) : AWp P B c Q ⟨ts, hp, ds⟩ :=
  c_freeze i k sz hi hk (all_under hu L) hn hts hh h
theorem d_append_nilm (hT : TOk P T) {α : Type} {enc : α → List AV} {R X : List α} {t e : TypeId} {d ed : TD} {s y : Operand} {sz : Nat} (hv : app ed.bytes [] R = some X) (hw : awantedL ops ts o = some true) (ho : o.op = .call ⟨.builtin .append, #[s, y], #[t, t]⟩) (hd : T t = some d) (hk : d.kind = .slice e) (hed : T e = some ed)
    (hs : evalL ts s = .nilsl) (hsz : sz = ed.size) (hy : srcOf (hp ++ [some (.row [] sz e)]) (evalL ts y) = some (List.map enc R)) (hlen : ∀ x, (enc x).length = ed.size) (hsc : ∀ x, (enc x).all AV.scal = true)
    (hh : hp ++ [some (.row (List.map enc X) sz e)] = hp') (ht : putL ts o.dst (.own hp.length (List.map enc X).length) = ts') (h : AOps P B ops Q rest ⟨ts', hp', ds⟩) : AOps P B ops Q (o :: rest) ⟨ts, hp, ds⟩ := by
  obtain ⟨h1, h2, h3⟩ := app_spec hv
  rw [List.nil_append] at h3
  subst h3
  refine aops_append_nil (st := ⟨ts, hp, ds⟩) hT hw ho hd hk hed hs hsz hy (all_len hlen _) (all_scal hsc _ _) (by simpa using h2) (by simpa using h1) ?_
  subst hh; subst ht
  try simp only [List.nil_append] at h
  cases hd : o.dst <;> (simp only [putL, hd] at h; simp only [ASt.put]; exact h)
/-- An element of a slice of the call's own is written. -/
theorem d_store_rowm (hT : TOk P T) {α : Type} {enc : α → List AV} {L : List α} {x y : α} {t e : TypeId} {d : TD} {p v : Operand} {k sz : Nat} {i : Int} (hv : idx L i = some x) (hw : awantedL ops ts o = some true) (ho : o.op = .store t p v) (hd : T t = some d) (hpp : evalL ts p = .rptr k (List.map enc L).length i.toNat 0) (hk : hp[k]? = some (some (.row (List.map enc L) sz e)))
    (hy : (evalL ts v).cellsOf = enc y) (hl : (enc y).length = d.size) (hlx : (enc x).length = d.size) (hs : (enc y).all AV.scal = true)
    (hh : hp.set k (some (.row (List.map enc (L.set i.toNat y)) sz e)) = hp') (ht : putL ts o.dst .undef = ts') (h : AOps P B ops Q rest ⟨ts', hp', ds⟩) : AOps P B ops Q (o :: rest) ⟨ts, hp, ds⟩ := by
  have hel := idx_el (f := enc) hv
  refine aops_store_row (st := ⟨ts, hp, ds⟩) hT hw ho hd hpp hk hel (by rw [show ASt.eval ⟨ts, hp, ds⟩ v = evalL ts v from rfl, hy]; exact hl) (by omega) (by
    rw [show ASt.eval ⟨ts, hp, ds⟩ v = evalL ts v from rfl, hy]
    refine List.all_eq_true.2 fun z hz => ?_
    have := List.all_eq_true.1 hs z hz
    unfold solid
    split
    · simp [AV.scal] at this
    · exact this) ?_
  have e1 : splice 0 (enc y) (enc x) = enc y := by
    simp only [splice, List.take_zero, List.nil_append, Nat.zero_add]
    rw [List.drop_eq_nil_of_le (by omega), List.append_nil]
  show AOps P B ops Q rest (ASt.put ⟨ts, hp.set k (some (.row ((List.map enc L).set i.toNat (splice 0 (evalL ts v).cellsOf (enc x))) sz e)), ds⟩ o.dst .undef)
  rw [hy, e1, ← List.map_set, hh]
  subst ht
  cases hd' : o.dst <;> (simp only [putL, hd'] at h; simp only [ASt.put]; exact h)
end rules

/-! ### a struct in a variable as the only result -/
theorem ares_cell1 {P : Program} {T : TT} (hT : TOk P T) {fn : Func} {st : ASt} {p : Tmp} {t : TypeId} {x : AV} (h : fn.results.toList = [.cell p t]) {d : TD} (hd : T t = some d) {cs : List AV}
    (hcs : aload st.heap (st.tmps.getD p .any) d.size = some cs) (hx : (match d.kind.agg with | true => AV.agg cs | false => cs.headD .any) = x) (hne : cs ≠ [] := by exact fun h => by cases h) : ARes P fn st x := fun w S φ a hh hr => by
  have hp := rel_eval (st := st) hr (.tmp p)
  simp only [ASt.eval, evalL, Act.eval] at hp
  obtain ⟨q1, q2⟩ := loadVar_rep (P := P) hT hd hh.live hp hcs
  obtain ⟨_, b, off, hv, _⟩ := load_rep hh.live hp hcs
  have ha : (asAddr (a.tmps.getD p Go.undef)).run P w = .ok ⟨b, off, none⟩ w := by rw [hv]; rfl
  have e : fn.results = #[.cell p t] := by rw [← Array.toArray_toList (xs := fn.results), h]
  have fin : ∀ u, (Instr.loadAt t (a.tmps.getD p Go.undef)).run P w = .ok u w → (results fn a.tmps).run P w = .ok u w := fun u hu => by
    rw [hv] at hu
    simp only [Instr.loadAt, Instr.sureAddr, Sem.run_bind, Sem.run_pure, Result.andThen_ok] at hu
    have ha' := ha
    rw [Array.getD_eq_getD_getElem?] at ha'
    simp [results, e, ha', hu]
  cases hagg : d.kind.agg with
  | true =>
    obtain ⟨vs, r1, r2⟩ := q1 hagg
    rw [hagg] at hx; subst hx
    exact ⟨_, fin _ r1, r2⟩
  | false =>
    rw [hagg] at hx; subst hx
    cases cs with
    | nil => exact absurd rfl hne
    | cons y r =>
      obtain ⟨u, r1, r2⟩ := q2 hagg y rfl
      exact ⟨_, fin _ r1, r2⟩
end Go.Proofs.Ytpckfpahmnhfcaa.G
