/- The ghost machine: literals of slices and structs, appends, structs compared; ghost steps on states. -/
import Derived.Test.YtpckfpahmnhfcaaG5
namespace Go.Proofs.Ytpckfpahmnhfcaa.G
open Go Go.RowKit
set_option linter.unusedVariables false
set_option linter.unusedSimpArgs false

/-! ### literals -/
theorem foldl_set : ∀ (vs : List Value) (off j0 : Nat) (cs : Array Value), off + j0 + vs.length ≤ cs.size →
    (vs.zipIdx j0).foldl (fun (cs : Array Value) (q : Value × Nat) => cs.setIfInBounds (off + q.2) q.1) cs = (cs.toList.take (off + j0) ++ vs ++ cs.toList.drop (off + j0 + vs.length)).toArray
  | [], off, j0, cs, h => by simp
  | v :: vs, off, j0, cs, h => by
    simp only [List.zipIdx_cons, List.foldl_cons]
    rw [foldl_set vs off (j0 + 1) _ (by simp at h ⊢; omega)]
    congr 1
    have hlt : off + j0 < cs.size := by simp at h; omega
    apply List.ext_getElem?
    intro j
    simp only [Array.toList_setIfInBounds, List.getElem?_append, List.length_append, List.length_take, List.length_set, Array.length_toList, List.getElem?_take, List.getElem?_drop, List.getElem?_set, List.length_cons]
    repeat' split
    all_goals first | rfl | omega | skip
    all_goals first
      | (rename_i h1 h2 h3; have : j - min (off + j0) cs.size = 0 := by omega
         rw [this]; rfl)
      | (have : ∃ q, j - min (off + j0) cs.size = q + 1 ∧ j - min (off + (j0 + 1)) cs.size = q := ⟨j - min (off + (j0 + 1)) cs.size, by omega, rfl⟩
         obtain ⟨q, e1, e2⟩ := this
         rw [e1, e2]; rfl)
      | (congr 1; omega)
      | skip

theorem fill_step (place : Nat → Option (Nat × Nat)) (cs : Array Value) (i off size : Nat) (v : Value) (rest : List (Nat × Value)) (hp : place i = some (off, size)) (hs : v.cells.size = size) (hf : off + size ≤ cs.size) :
    Instr.fill place cs ((i, v) :: rest) = Instr.fill place (cs.toList.take off ++ v.cells.toList ++ cs.toList.drop (off + v.cells.toList.length)).toArray rest := by
  conv => lhs; unfold Instr.fill
  rw [hp]
  have h1 : (decide (v.cells.size ≠ size) || decide (off + v.cells.size > cs.size)) = false := by simp; omega
  simp only [h1, Bool.false_eq_true, if_false]
  congr 1
  have := foldl_set v.cells.toList off 0 cs (by simp; omega)
  rw [← Array.foldl_toList]
  simp only [Nat.add_zero] at this
  rw [← this]
  simp

theorem fill_rep {w : World} {S : Nat → Prop} {φ : Phi} {hp : AHeap} (hh : HLive w S φ hp) (place : Nat → Option (Nat × Nat)) : ∀ (parts : List (Nat × AV)) (vals : List (Nat × Value)) (cs : Array Value) (xs r : List AV), parts.length = vals.length →
    (∀ (j : Nat) (q : Nat × AV) (u : Nat × Value), parts[j]? = some q → vals[j]? = some u → q.1 = u.1 ∧ Rep w S φ u.2 q.2 ∧ q.2.cellsOf.all (solid hp) = true) → cs.size = xs.length → (∀ (j : Nat) (x : AV), xs[j]? = some x → Rep w S φ (cs.getD j Go.undef) x) → afill place xs parts = some r →
    ∃ rs, Instr.fill place cs vals = some rs ∧ rs.size = r.length ∧ ∀ (j : Nat) (x : AV), r[j]? = some x → Rep w S φ (rs.getD j Go.undef) x
  | [], [], cs, xs, r, _, _, hsz, hrep, h => by simp [afill] at h; subst h; exact ⟨cs, rfl, hsz, hrep⟩
  | [], _ :: _, _, _, _, hl, _, _, _, _ => by simp at hl
  | _ :: _, [], _, _, _, hl, _, _, _, _ => by simp at hl
  | (i, x) :: ps, (i', v) :: vs, cs, xs, r, hl, hpv, hsz, hrep, h => by
    obtain ⟨rfl, hv, hsol⟩ := hpv 0 _ _ rfl rfl
    obtain ⟨k1, k2, k3⟩ := cells_rep hh hv hsol
    simp only [afill] at h
    split at h
    · cases h
    · rename_i off size hp'
      split at h
      · rename_i hs
        split at h
        · rename_i hf
          have hs' : x.cellsOf.length = size := hs
          have k1' : v.cells.size = x.cellsOf.length := k1
          rw [fill_step place cs i off size v vs hp' (by rw [k1, hs]) (by omega)]
          refine fill_rep hh place ps vs _ _ r (by simpa using hl) (fun j q u h1 h2 => hpv (j + 1) q u (by simpa using h1) (by simpa using h2)) ?_ (splice_rep hrep k3 k1 (by simp only [hs']; omega) (by omega)) h
          rw [splice_length (by simp only [hs']; omega)]
          simp; omega
        · cases h
      · cases h

section heads
variable {P : Program} {T : TT} {o : Oper} {ρ : Operand → AV} {hp : AHeap}

def fieldPlaces (T : TT) (fs : List (Nat × TypeId)) (i : Nat) : Option (Nat × Nat) :=
  match fs[i]? with
  | some (off, ft) => match T ft with
    | some fd => some (off, fd.size)
    | none => none
  | none => none
/-- Are all fields' types known? -/
def knownAll (T : TT) (fs : List (Nat × TypeId)) : Bool := fs.all fun f => (T f.2).isSome

theorem places_run (hT : TOk P T) (w : World) : ∀ (F : List Field) (fs : List (Nat × TypeId)), F.map (fun f => (f.offset, f.type)) = fs → knownAll T fs = true →
    ∃ pl, (F.mapM (m := Sem) (fun f => do pure (f.offset, ← sizeOf f.type))).run P w = .ok pl w ∧ ∀ i, pl[i]? = fieldPlaces T fs i
  | [], [], _, _ => ⟨[], by simp, fun i => by simp [fieldPlaces]⟩
  | [], _ :: _, h, _ => by simp at h
  | _ :: _, [], h, _ => by simp at h
  | f :: F, g :: fs, h, hk => by
    simp only [List.map_cons, List.cons.injEq] at h
    obtain ⟨rfl, h⟩ := h
    simp only [knownAll, List.all_cons, Bool.and_eq_true] at hk
    obtain ⟨pl, h1, h2⟩ := places_run hT w F fs h hk.2
    obtain ⟨fd, hfd⟩ := Option.isSome_iff_exists.1 hk.1
    have hs := run_sizeT hT hfd w
    refine ⟨(f.offset, fd.size) :: pl, ?_, fun i => ?_⟩
    · simp only [List.mapM_cons, Sem.run_bind, hs, Sem.run_pure, Result.andThen_ok, h1]
    · cases i with
      | zero => simp only [fieldPlaces, List.getElem?_cons_zero, hfd]
      | succ i => simpa [fieldPlaces] using h2 i

theorem parts_rep {w : World} {S : Nat → Prop} {φ : Phi} {a : Act} {parts : Array (Nat × Operand)} (hev : ∀ y ∈ (parts.toList.map (·.2)), Rep w S φ (a.eval y) (ρ y)) (hsol : parts.toList.all (fun q => (ρ q.2).cellsOf.all (solid hp)) = true) :
    ∀ (j : Nat) (q : Nat × AV) (u : Nat × Value), (parts.toList.map fun q => (q.1, ρ q.2))[j]? = some q → ((parts.map fun (i, x) => (i, a.eval x)).toList)[j]? = some u → q.1 = u.1 ∧ Rep w S φ u.2 q.2 ∧ q.2.cellsOf.all (solid hp) = true := fun j q u h1 h2 => by
  simp only [Array.toList_map, List.getElem?_map, Option.map_eq_some_iff] at h1 h2
  obtain ⟨p, hp1, rfl⟩ := h1
  obtain ⟨p', hp2, rfl⟩ := h2
  rw [hp1] at hp2; cases hp2
  have hm := List.mem_of_getElem? hp1
  exact ⟨rfl, hev _ (List.mem_map.2 ⟨p, hm, rfl⟩), List.all_eq_true.1 hsol p hm⟩

/-- T{..}, T a struct. -/
theorem head_build (hT : TOk P T) {t : TypeId} {d : TD} {fs : List (Nat × TypeId)} {parts : Array (Nat × Operand)} {r : List AV} (ho : o.op = .build t parts) (hd : T t = some d) (hk : d.kind = .struct fs) (hkn : knownAll T fs = true)
    (hsol : parts.toList.all (fun q => (ρ q.2).cellsOf.all (solid hp)) = true) (hr : afill (fieldPlaces T fs) d.zero (parts.toList.map fun q => (q.1, ρ q.2)) = some r) : AHead P o ρ hp (.agg r) none := head_ro fun w S φ a hl hev => by
  obtain ⟨it, ut, h1, h2, h3, _, h5, z, hz, hzo, hzl⟩ := hT.get hd
  rw [hk] at h5
  obtain ⟨F, rfl, hF⟩ := kind_struct h5
  obtain ⟨k1, k2, k3⟩ := zeroOk_rep hzo w S φ
  obtain ⟨pl, g1, g2⟩ := places_run hT w F.toList fs hF hkn
  have hzv : (zeroValue t).run P w = .ok z w := by
    unfold zeroValue
    rw [Sem.run_bind, run_typeInfo w h1]
    simp [hz]
  obtain ⟨rs, q1, q2, q3⟩ := fill_rep hl (fieldPlaces T fs) (parts.toList.map fun q => (q.1, ρ q.2)) (parts.map fun (i, x) => (i, a.eval x)).toList z.cells d.zero r (by simp)
    (parts_rep (fun y hy => hev y (by simp [ho, Op.operands]; simpa using hy)) hsol) (by simpa using k1) (fun j x hj => by
      have := k3 j x hj
      rw [Array.getD_eq_getD_getElem?]
      simpa [List.getD_eq_getElem?_getD] using this) hr
  refine ⟨.agg rs, ?_, .agg q2 q3⟩
  unfold execOp
  have hpl : (fun i => pl.toArray[i]?) = fieldPlaces T fs := funext fun i => by rw [← g2 i]; simp
  have g1' : (F.mapM (m := Sem) (fun f => do pure (f.offset, ← sizeOf f.type))).run P w = .ok pl.toArray w := by
    rw [← Array.toArray_toList (xs := F), List.mapM_toArray, Sem.run_map, g1]; rfl
  simp only [ho, Instr.build, Sem.run_bind, hzv, Result.andThen_ok, run_underlying h2, g1', hpl, q1, Sem.run_pure]

theorem afill_seq (size : Nat) : ∀ (parts : List (Nat × AV)) (i0 : Nat) (ys : List AV), parts.map (·.1) = List.range' i0 parts.length → (∀ q ∈ parts, q.2.cellsOf.length = size) → (i0 + parts.length) * size ≤ ys.length →
    afill (fun i => some (i * size, size)) ys parts = some (ys.take (i0 * size) ++ (parts.map fun q => q.2.cellsOf).flatten ++ ys.drop ((i0 + parts.length) * size))
  | [], i0, ys, _, _, _ => by simp [afill]
  | (i, x) :: ps, i0, ys, hi, hsz, hle => by
    simp only [List.map_cons, List.length_cons, List.range'_succ, List.cons.injEq] at hi
    obtain ⟨rfl, hi⟩ := hi
    have hx : x.cellsOf.length = size := hsz (i, x) (by simp)
    have hmul : (i + (ps.length + 1)) * size = i * size + size + ps.length * size := by
      rw [Nat.add_mul, Nat.add_mul]; omega
    have hmul' : (i + 1 + ps.length) * size = i * size + size + ps.length * size := by
      rw [Nat.add_mul, Nat.add_mul]; omega
    simp only [List.length_cons] at hle
    rw [hmul] at hle
    have hsp : (splice (i * size) x.cellsOf ys).length = ys.length := splice_length (by omega)
    simp only [afill, hx, if_true]
    rw [if_pos (by omega), afill_seq size ps (i + 1) _ hi (fun q hq => hsz q (by simp [hq])) (by rw [hsp, hmul']; exact hle)]
    simp only [List.map_cons, List.flatten_cons, List.length_cons]
    rw [hmul, hmul']
    congr 1
    have e1 : (splice (i * size) x.cellsOf ys).take ((i + 1) * size) = ys.take (i * size) ++ x.cellsOf := by
      rw [splice, Nat.succ_mul]
      apply List.take_left'
      simp; omega
    have e2 : (splice (i * size) x.cellsOf ys).drop (i * size + size + ps.length * size) = ys.drop (i * size + size + ps.length * size) := by
      rw [splice, hx]
      rw [show i * size + size + ps.length * size = (List.take (i * size) ys ++ x.cellsOf).length + ps.length * size by simp; omega, List.drop_length_add_append, List.drop_drop]
      congr 1
      simp; omega
    rw [e1, e2]
    simp [List.append_assoc]

/-- []T{a, b, ..}. -/
theorem head_buildSlice (hT : TOk P T) {t e : TypeId} {d ed : TD} {len : Nat} {parts : Array (Nat × Operand)} (k : Nat) (ho : o.op = .buildSlice t len parts) (hd : T t = some d) (hk : d.kind = .slice e) (hed : T e = some ed)
    (hidx : parts.toList.map (·.1) = List.range len) (hsz : ∀ q ∈ parts.toList, (ρ q.2).cellsOf.length = ed.size) (hsol : parts.toList.all (fun q => (ρ q.2).cellsOf.all (solid hp)) = true) (hbig : len * ed.size ≤ 2 ^ 24) :
    AHead P o ρ hp (.own k len) (some (k, .row (parts.toList.map fun q => (ρ q.2).cellsOf) ed.size e)) := fun w S φ a next Q hl hb hev hn hkk => by
  obtain ⟨it, ut, h1, h2, h3, _, h5, _⟩ := hT.get hd
  rw [hk] at h5
  rw [kind_slice h5] at h2
  obtain ⟨it', ut', h1', h2', h3', _, h5', z, hz, hzo, hzl⟩ := hT.get hed
  have hs := run_sizeT hT hed w
  have hplen : parts.toList.length = len := by have := congrArg List.length hidx; simpa using this
  have hn' := hn _ _ rfl
  have hzv : (zeroValue e).run P w = .ok z w := by
    unfold zeroValue
    rw [Sem.run_bind, run_typeInfo w h1']
    simp [hz]
  have hbig' : ¬ (len * ed.size > 2 ^ 24) := by omega
  have hpp : ((parts.toList.map fun q => (q.1, ρ q.2)).map (·.1)) = List.range' 0 (parts.toList.map fun q => (q.1, ρ q.2)).length := by
    rw [List.map_map, List.length_map, hplen, ← List.range_eq_range', ← hidx]; rfl
  have hr := afill_seq ed.size (parts.toList.map fun q => (q.1, ρ q.2)) 0 (List.replicate (len * ed.size) .any) hpp (fun q hq => by
    obtain ⟨p, hp1, rfl⟩ := List.mem_map.1 hq
    exact hsz p hp1) (by simp [hplen])
  have fin : ∀ (zs : Array Value), zs.size = len * ed.size → ∃ rs, Instr.fill (fun i => some (i * ed.size, ed.size)) zs (parts.map fun (i, x) => (i, a.eval x)).toList = some rs ∧ rs.size = len * ed.size ∧
      ∀ (j : Nat) (x : AV), (parts.toList.map fun q => (ρ q.2).cellsOf).flatten[j]? = some x → Rep w S φ (rs.getD j Go.undef) x := fun zs hzs => by
    obtain ⟨rs, q1, q2, q3⟩ := fill_rep hl (fun i => some (i * ed.size, ed.size)) (parts.toList.map fun q => (q.1, ρ q.2)) (parts.map fun (i, x) => (i, a.eval x)).toList zs _ _ (by simp)
      (parts_rep (fun y hy => hev y (by simp [ho, Op.operands]; simpa using hy)) hsol) (by simpa using hzs) (fun j x hj => by
        rw [List.getElem?_replicate] at hj
        split at hj
        · cases hj; exact .any
        · cases hj) hr
    have hflat : ((parts.toList.map fun q => (q.1, ρ q.2)).map fun q => q.2.cellsOf).flatten = (parts.toList.map fun q => (ρ q.2).cellsOf).flatten := by rw [List.map_map]; rfl
    have hfl : (parts.toList.map fun q => (ρ q.2).cellsOf).flatten.length = len * ed.size := by
      rw [flatten_len (sz := ed.size) (fun e he => by obtain ⟨p, hp1, rfl⟩ := List.mem_map.1 he; exact hsz p hp1)]; simp [hplen]
    refine ⟨rs, q1, ?_, fun j x hj => q3 j x ?_⟩
    · rw [q2, hflat]
      simp only [List.length_append, List.length_take, List.length_drop, List.length_replicate, hfl, List.length_map, hplen]
      simp
    · rw [hflat]
      simp only [Nat.zero_mul, List.take_zero, List.nil_append]
      rw [List.getElem?_append_left (List.getElem?_eq_some_iff.1 hj).1]
      exact hj
  have run : ∀ (rs : Array Value), Instr.fill (fun i => some (i * ed.size, ed.size)) ((Array.range (len * ed.size)).map ((if len * ed.size = 0 then #[] else z.cells)[· % (if len * ed.size = 0 then #[] else z.cells).size]!)) (parts.map fun (i, x) => (i, a.eval x)).toList = some rs →
      (execOp a.eval o).run P w = .ok (.value (.slice (some ⟨w.heap.size, 0, none⟩) len len)) (w.alloc (.cells rs e)) := fun rs q2 => by
    unfold execOp
    by_cases h0 : len * ed.size = 0
    · have h00 : ¬ (0 > 2 ^ 24) := by omega
      simp only [h0, if_true] at q2
      simp only [h00, ho, Instr.buildSlice, Sem.run_bind, run_underlying h2, Result.andThen_ok, hs, hbig', if_false, h0, if_true, Sem.run_pure, q2, newRow, newObj, Sem.run]
      rfl
    · simp only [h0, if_false] at q2
      simp only [ho, Instr.buildSlice, Sem.run_bind, run_underlying h2, Result.andThen_ok, hs, hbig', if_false, h0, hzv, Sem.run_pure, q2, newRow, newObj, Sem.run]
      rfl
  obtain ⟨rs, q1, q2, q3⟩ := fin ((Array.range (len * ed.size)).map ((if len * ed.size = 0 then #[] else z.cells)[· % (if len * ed.size = 0 then #[] else z.cells).size]!)) (by simp)
  unfold Oper.wp
  rw [run rs q1, Oper.upon_value]
  have hxl : (parts.toList.map fun q => (ρ q.2).cellsOf).length = len := by simpa using hplen
  refine hkk _ _ S _ (below_alloc w _) (fun _ h => h) (fun _ h => .inl h) (bound_alloc hb _) (newRel_alloc hb hn' (.row (parts.toList.map fun (q : Nat × Operand) => (ρ q.2).cellsOf) ed.size e) rs e (fun el he => by
      obtain ⟨p, hp1, rfl⟩ := List.mem_map.1 he; exact hsz p hp1) ⟨rfl, len, by rw [hxl]; exact Nat.le_refl _, q2⟩ (by
      simp only [Blk.cells]
      rw [flatten_len (sz := ed.size) (fun el he => by obtain ⟨p, hp1, rfl⟩ := List.mem_map.1 he; exact hsz p hp1), hxl, q2]; exact Nat.le_refl _) q3)
    (.own (by simp [updPhi]) (fun L hL => by simp [updPhi] at hL; subst hL; simp [Blk.loc, Blk.n, hplen]) (fun L hL hn => by
      simp [updPhi] at hL; subst hL
      refine ⟨len, rs, ?_, ?_, heap_new _ _, q2⟩
      · simp only [Blk.loc, Blk.n, hxl]
      · simp only [Blk.loc, Blk.n, hxl]; exact Nat.le_refl _) ⟨_, _, _, rfl⟩)
end heads

/-! ### appends -/
theorem run_append_none {P : Program} (w : World) (t ty e : TypeId) (i : TypeInfo) (ht : P.underlying t = some (.slice e)) (hi : P.info? e = some i) (base A : Option Addr) (n cap c : Nat) (hle : n ≤ cap) :
    (Builtin.append_ #[t, t] ty #[.slice base n cap, .slice A 0 c]).run P w = .ok (.slice base n cap) w := by
  have hf : (Builtin.firstCells i.size 0 (.slice A 0 c)).run P w = .ok #[] w := by
    cases A with
    | none => simp [Builtin.firstCells]
    | some x => have := run_firstCells_some (P := P) w i.size 0 x 0 c [] (by simp) (by simp); simpa using this
  cases base with
  | none => simp [Builtin.append_, run_underlying ht, sizeOf, typeInfo, hi, Builtin.lenOf, hle, hf]
  | some x => simp [Builtin.append_, run_underlying ht, sizeOf, typeInfo, hi, Builtin.lenOf, hle, hf, storeCells]

/-- The elements of a slice that is read. -/
def srcOf (hp : AHeap) (y : AV) : Option (List (List AV)) :=
  match y with
  | .list ys => some ys
  | .nilsl => some []
  | .own k n => match hp[k]? with
    | some (some (.row ys _ _)) => if ys.length = n then some ys else none
    | _ => none
  | _ => none

theorem src_rep {w : World} {S : Nat → Prop} {φ : Phi} {hp : AHeap} {v : Value} {y : AV} {ys : List (List AV)} (hl : HLive w S φ hp) (hv : Rep w S φ v y) (h : srcOf hp y = some ys) :
    ∃ A c, v = .slice A ys.length c ∧ ys.length ≤ c ∧ (ys ≠ [] → ∃ b off, A = some ⟨b, off, none⟩ ∧ ∀ (j : Nat) (x : AV), ys.flatten[j]? = some x → ∃ u, w.cell? ⟨b, off + j, none⟩ = some u ∧ Rep w S φ u x) := by
  unfold srcOf at h
  split at h
  · cases h
    cases hv with
    | nil => exact ⟨_, _, rfl, Nat.zero_le _, fun h => absurd rfl h⟩
    | list u hS hlen hcap hsz hc hr => subst hlen; exact ⟨_, _, rfl, hcap, fun _ => ⟨_, _, rfl, fun j x hj => ⟨u j, hc j x hj, (hr j x hj).ofNil⟩⟩⟩
  · cases h
    cases hv
    exact ⟨_, _, rfl, Nat.le_refl _, fun h => absurd rfl h⟩
  · rename_i k n
    split at h
    · rename_i zs sz e hk
      split at h
      · rename_i hn
        cases h
        obtain ⟨_, g, q1, q2⟩ := hl k _ hk
        cases hv with
        | own hk' hle hv' =>
          have ha := hv' _ q1 hn
          cases g with
          | none =>
            obtain ⟨_, _, he⟩ := q2
            have : ys = [] := by cases he; rfl
            subst this
            obtain ⟨_, A, rfl⟩ := ha
            exact ⟨_, _, rfl, Nat.le_refl _, fun h => absurd rfl h⟩
          | some g =>
            obtain ⟨cap, cs, rfl, g1, g2, g3⟩ := ha
            obtain ⟨_, cs', ty, h4, h5, h6, h7⟩ := q2
            refine ⟨some ⟨g, 0, none⟩, cap, rfl, g1, fun _ => ⟨g, 0, rfl, fun j x hj => ?_⟩⟩
            have hlt : j < cs'.size := Nat.lt_of_lt_of_le (List.getElem?_eq_some_iff.1 hj).1 h5
            refine ⟨cs'.getD j Go.undef, ?_, h7 j x hj⟩
            simp [World.cell?, h4, hlt]
      · cases h
    · cases h
  · cases h

/-- A row grown: in its place, or moved. -/
theorem hrel_grow {w w' : World} {S : Nat → Prop} {φ : Phi} {h : AHeap} (hh : HRel w S φ h) {k : Nat} {g0 : Option Nat} {xs xs' : List (List AV)} {sz : Nat} {e : TypeId} (hk : h[k]? = some (some (.row xs sz e))) (hg : φ k = some (some ((Blk.row xs sz e).loc g0))) (hlt : xs.length < xs'.length)
    {g : Nat} {cs : Array Value} (hgg : g0 = some g ∨ w.heap.size ≤ g) (hos : w'.os = w.os) (htape : w'.tape = w.tape) (hout : w'.output = w.output) (hsize : w.heap.size ≤ w'.heap.size) (hkeep : ∀ b, b < w.heap.size → b ≠ g → w'.heap[b]? = w.heap[b]?)
    (hw : w'.heap[g]? = some (.cells cs e (0, 0))) (hev : ∀ el ∈ xs', el.length = sz) (hcap : ∃ cap, xs'.length ≤ cap ∧ cs.size = cap * sz) (hc : ∀ (j : Nat) (x : AV), xs'.flatten[j]? = some x → ∃ v, Rep w S φ v x ∧ cs.getD j Go.undef = v) :
    HRel w' S (updPhi φ k (some ((Blk.row xs' sz e).loc (some g)))) (h.set k (some (.row xs' sz e))) ∧ Ext w S φ w' S (updPhi φ k (some ((Blk.row xs' sz e).loc (some g)))) := by
  have hnS : ∀ b, S b → b ≠ g := fun b hb e => by
    subst e
    rcases hgg with rfl | h1
    · obtain ⟨_, g1, h1, h2⟩ := hh.live k _ hk
      rw [hg] at h1
      simp [Blk.loc] at h1
      subst h1
      exact h2.1 hb
    · have := hh.bound b hb; omega
  have hkl : k < h.length := (List.getElem?_eq_some_iff.1 hk).1
  have hst : Step w S φ w' S (updPhi φ k (some ((Blk.row xs' sz e).loc (some g)))) := ⟨fun _ h => h, fun b hb => hkeep b (hh.bound b hb) (hnS b hb), fun j => by
    by_cases hj : j = k
    · subst hj; exact .inr (.inr (.inr ⟨_, (Blk.row xs' sz e).loc (some g), hg, by simp [updPhi], hlt⟩))
    · exact .inr (.inl (by simp [updPhi, hj])), fun j g1 n sz1 e1 hj he cs1 ty hw1 => by
    by_cases hjk : j = k
    · subst hjk
      rw [hg] at hj he
      simp [updPhi, Blk.loc, Blk.n] at he
      omega
    · have hne : g1 ≠ g := fun eq => by
        subst eq
        rcases hgg with rfl | h1
        · exact hjk (hh.inj j k g1 _ _ hj hg rfl rfl)
        · have := hrel_lt hh hj rfl; omega
      exact ⟨cs1, by rw [hkeep g1 (Array.getElem?_eq_some_iff.1 hw1).1 hne]; exact hw1, rfl⟩⟩
  refine ⟨⟨fun j hj => ?_, fun j hj => ?_, fun j B' hj => ?_, fun j j' g1 L L' h1 h2 e1 e2 => ?_, fun b hb => Nat.lt_of_lt_of_le (hh.bound b hb) hsize⟩, ⟨hst, hos, htape, hout, hsize, fun b hlt' hno => hkeep b hlt' (fun e => ?_), fun b h => .inl h, fun j g1 L hj hg1 => ?_⟩⟩
  · rw [List.length_set] at hj
    have : j ≠ k := by omega
    simp only [updPhi, this, if_false]; exact hh.dom j hj
  · rw [List.getElem?_set] at hj
    split at hj
    · simp at hj
    · rename_i hne
      have : j ≠ k := fun e => hne e.symm
      simp only [updPhi, this, if_false]; exact hh.dead j hj
  · rw [List.getElem?_set] at hj
    split at hj
    · rename_i e1
      subst e1
      simp only [hkl, if_true, Option.some.injEq] at hj
      subst hj
      obtain ⟨cap, c1, c2⟩ := hcap
      have hfl : xs'.flatten.length ≤ cs.size := by rw [flatten_len hev, c2]; exact Nat.mul_le_mul_right _ c1
      refine ⟨hev, some g, by simp [updPhi], fun hS => hnS g hS rfl, cs, e, hw, hfl, ⟨rfl, cap, c1, c2⟩, fun i x hi => ?_⟩
      obtain ⟨v, v1, v2⟩ := hc i x hi
      rw [v2]
      exact v1.step hst
    · rename_i hne
      have hjk : j ≠ k := fun e => hne e.symm
      obtain ⟨q1, g1, q2, q3⟩ := hh.live j B' hj
      refine ⟨q1, g1, by simp only [updPhi, hjk, if_false]; exact q2, ?_⟩
      cases g1 with
      | none => exact q3
      | some g1 =>
        have hlt1 := hrel_lt hh q2 rfl
        have hne1 : g1 ≠ g := fun eq => by
          subst eq
          rcases hgg with rfl | h1
          · exact hjk (hh.inj j k g1 _ _ q2 hg rfl rfl)
          · omega
        obtain ⟨a, cs1, ty1, b, c, d, e'⟩ := q3
        exact ⟨a, cs1, ty1, by rw [hkeep g1 hlt1 hne1]; exact b, c, d, fun i x hi => (e' i x hi).step hst⟩
  · have key : ∀ j1 j2 L1 L2, j1 = k → j2 ≠ k → updPhi φ k (some ((Blk.row xs' sz e).loc (some g))) j1 = some (some L1) → φ j2 = some (some L2) → L1.g = some g1 → L2.g = some g1 → False := fun j1 j2 L1 L2 hj1 hj2 p1 p2 p3 p4 => by
      subst hj1
      simp [updPhi] at p1
      subst p1
      simp [Blk.loc] at p3
      subst p3
      rcases hgg with rfl | hge
      · exact hj2 (hh.inj j2 j1 g _ _ p2 hg p4 rfl)
      · have := hrel_lt hh p2 p4; omega
    by_cases hj : j = k <;> by_cases hj' : j' = k
    · rw [hj, hj']
    · have h2' : φ j' = some (some L') := by simpa [updPhi, hj'] using h2
      exact (key j j' L L' hj hj' h1 h2' e1 e2).elim
    · have h1' : φ j = some (some L) := by simpa [updPhi, hj] using h1
      exact (key j' j L' L hj' hj h2 h1' e2 e1).elim
    · have h1' : φ j = some (some L) := by simpa [updPhi, hj] using h1
      have h2' : φ j' = some (some L') := by simpa [updPhi, hj'] using h2
      exact hh.inj j j' g1 L L' h1' h2' e1 e2
  · subst e
    rcases hgg with rfl | h1
    · exact hno k _ hg rfl
    · omega
  · unfold updPhi at hj
    split at hj
    · cases hj
      simp [Blk.loc] at hg1
      subst hg1
      rcases hgg with rfl | h1
      · exact .inr ⟨k, _, hg, rfl⟩
      · exact .inl h1
    · exact .inr ⟨j, L, hj, hg1⟩

end Go.Proofs.Ytpckfpahmnhfcaa.G
