/- The ghost machine's operations that leave the world alone: an evaluator over abstract values, and its soundness. -/
import Derived.Test.YtpckfpahmnhfcaaG1
import Derived.Laws.Rows
import Derived.Laws.CopyRow
import Derived.Laws.AppendOwn
import Derived.Laws.MakeOwn
import Derived.ChangeKeysEq
import Derived.Deep.MidRow
namespace Go.Proofs.Ytpckfpahmnhfcaa.G
open Go Go.RowKit
set_option linter.unusedVariables false
set_option linter.unusedSimpArgs false

/-! ### types -/
inductive TK where
  | int (k : IntKind) | bool | str | struct (fs : List (Nat × TypeId)) | array (n : Nat) (e : TypeId) | slice (e : TypeId) | ptr (e : TypeId) | iface | func
structure TD where
  size : Nat
  bytes : Nat
  kind : TK
  zero : List AV
def TK.agg : TK → Bool
  | .struct _ | .array _ _ => true
  | _ => false
def kindOk : TypeDesc → TK → Bool
  | .int k, .int k' => k == k'
  | .bool, .bool => true
  | .string, .str => true
  | .struct fs, .struct l => (fs.toList.map fun f => (f.offset, f.type)) == l
  | .array n e, .array n' e' => n == n' && e == e'
  | .slice e, .slice e' => e == e'
  | .pointer e, .ptr e' => e == e'
  | .interface _, .iface => true
  | .func _ _ _, .func => true
  | _, _ => false
def eqScal : Value → AV → Bool
  | .bool b, .bool c => b == c
  | .int k n, .int k' n' => k == k' && n == n'
  | .string s, .str s' => decide (s = s')
  | .slice none 0 0, .list [] => true
  | .pointer none, .nilptr => true
  | .nilFunc, .nilfn => true
  | .nilIface, .nilIface => true
  | _, _ => false
def zeroOk : List Value → List AV → Bool
  | [], [] => true
  | v :: vs, x :: xs => eqScal v x && zeroOk vs xs
  | _, _ => false
def chkTD (P : Program) (t : TypeId) (d : TD) : Bool :=
  match P.info? t, P.underlying t with
  | some i, some u => i.size == d.size && i.bytes == d.bytes && kindOk u d.kind && (match i.zero with | some z => zeroOk z.cells.toList d.zero && d.zero.length == d.size | none => false)
  | _, _ => false
abbrev TT := TypeId → Option TD
def TOk (P : Program) (T : TT) : Prop := ∀ t d, T t = some d → chkTD P t d = true
def ttOf (l : List (TypeId × TD)) : TT := fun t => (l.find? (·.1 == t)).map (·.2)
theorem tok_of {P : Program} {l : List (TypeId × TD)} (h : l.all (fun p => chkTD P p.1 p.2) = true) : TOk P (ttOf l) := fun t d hd => by
  simp only [ttOf, Option.map_eq_some_iff] at hd
  obtain ⟨p, h1, rfl⟩ := hd
  have h2 := List.find?_some h1
  have h3 := List.mem_of_find?_eq_some h1
  have := (List.all_eq_true.1 h) p h3
  simp at h2
  rw [← h2]; exact this

section
variable {P : Program} {T : TT}
theorem TOk.get (h : TOk P T) {t : TypeId} {d : TD} (hd : T t = some d) : ∃ i u, P.info? t = some i ∧ P.underlying t = some u ∧ i.size = d.size ∧ i.bytes = d.bytes ∧ kindOk u d.kind = true ∧ ∃ z, i.zero = some z ∧ zeroOk z.cells.toList d.zero = true ∧ d.zero.length = d.size := by
  have := h t d hd
  unfold chkTD at this
  split at this
  · rename_i i u h1 h2
    simp only [Bool.and_eq_true, beq_iff_eq] at this
    obtain ⟨⟨⟨h3, h4⟩, h5⟩, h6⟩ := this
    split at h6
    · rename_i z hz
      simp only [Bool.and_eq_true, beq_iff_eq] at h6
      exact ⟨i, u, h1, h2, h3, h4, h5, z, hz, h6.1, h6.2⟩
    · cases h6
  · cases this

theorem eqScal_rep {v : Value} {x : AV} (h : eqScal v x = true) (w : World) (S : Nat → Prop) (φ : Phi) : Rep w S φ v x ∧ v.oneCell' = true := by
  unfold eqScal at h
  split at h
  case h_1 => simp at h; subst h; exact ⟨.bool _, rfl⟩
  case h_2 => simp at h; obtain ⟨rfl, rfl⟩ := h; exact ⟨.int _ _, rfl⟩
  case h_3 => simp at h; subst h; exact ⟨.str _, rfl⟩
  case h_4 => exact ⟨.nil, rfl⟩
  case h_5 => exact ⟨.nilptr, rfl⟩
  case h_6 => exact ⟨.nilfn, rfl⟩
  case h_7 => exact ⟨.nilIface, rfl⟩
  case h_8 => cases h

theorem zeroOk_rep : ∀ {vs : List Value} {xs : List AV}, zeroOk vs xs = true → ∀ (w : World) (S : Nat → Prop) (φ : Phi), vs.length = xs.length ∧ (∀ v ∈ vs, v.oneCell' = true) ∧ ∀ (j : Nat) (x : AV), xs[j]? = some x → Rep w S φ (vs.getD j Go.undef) x
  | [], [], _, _, _, _ => ⟨rfl, by simp, by simp⟩
  | [], _ :: _, h, _, _, _ => by simp [zeroOk] at h
  | _ :: _, [], h, _, _, _ => by simp [zeroOk] at h
  | v :: vs, x :: xs, h, w, S, φ => by
    simp only [zeroOk, Bool.and_eq_true] at h
    obtain ⟨h1, h2, h3⟩ := zeroOk_rep h.2 w S φ
    obtain ⟨g1, g2⟩ := eqScal_rep h.1 w S φ
    refine ⟨by simp [h1], ?_, fun j y hj => ?_⟩
    · intro u hu
      rcases List.mem_cons.1 hu with rfl | hu
      · exact g2
      · exact h2 u hu
    · cases j with
      | zero => rw [List.getElem?_cons_zero] at hj; cases hj; exact g1
      | succ j => rw [List.getElem?_cons_succ] at hj; exact h3 j y hj

theorem kindOk_agg {u : TypeDesc} {k : TK} (h : kindOk u k = true) : (u matches .struct _ | .array _ _) = k.agg := by
  unfold kindOk at h
  split at h <;> first | rfl | cases h

theorem run_isAgg (h : TOk P T) {t : TypeId} {d : TD} (hd : T t = some d) (w : World) : (isAgg t).run P w = .ok d.kind.agg w := by
  obtain ⟨i, u, h1, h2, h3, h4, h5, _⟩ := h.get hd
  unfold isAgg
  rw [Sem.run_bind, run_underlying h2]
  simp only [Result.andThen_ok]
  rw [← kindOk_agg h5]
  cases u <;> rfl

theorem run_sizeT (h : TOk P T) {t : TypeId} {d : TD} (hd : T t = some d) (w : World) : (sizeOf t).run P w = .ok d.size w := by
  obtain ⟨i, u, h1, h2, h3, h4, h5, _⟩ := h.get hd
  have := run_sizeOf (P := P) w h1
  rw [this]
  simp [Program.cellsOf, h1, h3]
end

/-! ### loads -/
/-- n cells from one on; all of them, if that is all that there are. -/
def acut (off n : Nat) (cs : List AV) : Option (List AV) :=
  match off with
  | 0 => match Nat.beq n cs.length with
    | true => some cs
    | false => match Nat.ble n cs.length with
      | true => some (cs.take n)
      | false => none
  | off' + 1 => match Nat.ble (off' + 1 + n) cs.length with
    | true => some ((cs.drop (off' + 1)).take n)
    | false => none
theorem acut_spec {off n : Nat} {cs r : List AV} (h : acut off n cs = some r) : off + n ≤ cs.length ∧ r = (cs.drop off).take n := by
  unfold acut at h
  split at h
  · split at h
    · rename_i hb
      cases h
      have := Nat.eq_of_beq_eq_true hb
      subst this
      exact ⟨by omega, by simp⟩
    · split at h
      · rename_i hb
        cases h
        exact ⟨by have := Nat.le_of_ble_eq_true hb; omega, by simp⟩
      · cases h
  · split at h
    · rename_i hb
      cases h
      exact ⟨Nat.le_of_ble_eq_true hb, rfl⟩
    · cases h
def aload (h : AHeap) (p : AV) (n : Nat) : Option (List AV) :=
  match p with
  | .ptr k off => match h[k]? with
    | some (some (.var cs)) => acut off n cs
    | _ => none
  | .rptr k m i off => match h[k]? with
    | some (some (.row xs _ _)) => if xs.length = m then (match xs[i]? with
      | some e => acut off n e
      | none => none) else none
    | _ => none
  | .fptr cs => acut 0 n cs
  | _ => none

theorem Rep.ofNil {w : World} {S : Nat → Prop} {φ : Phi} {v : Value} {x : AV} (h : Rep w S Phi.nil v x) : Rep w S φ v x :=
  h.step ⟨fun _ h => h, fun _ _ => rfl, fun _ => .inl rfl, fun _ _ _ _ _ h => by simp [Phi.nil] at h⟩

theorem flatten_get : ∀ (xs : List (List AV)) (sz i off : Nat) (e : List AV), (∀ e ∈ xs, e.length = sz) → xs[i]? = some e → off < e.length → xs.flatten[i * sz + off]? = e[off]?
  | [], _, _, _, _, _, h, _ => by simp at h
  | x :: xs, sz, 0, off, e, hsz, h, hlt => by
    simp at h; subst h
    simp [List.getElem?_append_left hlt]
  | x :: xs, sz, i + 1, off, e, hsz, h, hlt => by
    have hx : x.length = sz := hsz x (by simp)
    have ih := flatten_get xs sz i off e (fun e he => hsz e (by simp [he])) (by simpa using h) hlt
    simp only [List.flatten_cons]
    rw [List.getElem?_append_right (by rw [hx, Nat.succ_mul]; omega), ← ih]
    congr 1
    rw [hx, Nat.succ_mul]; omega

theorem load_rep {w : World} {S : Nat → Prop} {φ : Phi} {h : AHeap} {v : Value} {p : AV} {n : Nat} {cs : List AV} (hh : HLive w S φ h) (hv : Rep w S φ v p) (hl : aload h p n = some cs) :
    cs.length = n ∧ ∃ b off, v = .pointer (some ⟨b, off, none⟩) ∧ ∀ (j : Nat) (x : AV), cs[j]? = some x → ∃ u, w.cell? ⟨b, off + j, none⟩ = some u ∧ Rep w S φ u x := by
  unfold aload at hl
  split at hl
  · rename_i k off
    split at hl
    · rename_i cells hk
      have hfit := (acut_spec hl).1
      have hcs := (acut_spec hl).2
      subst hcs
      · refine ⟨by simp; omega, ?_⟩
        obtain ⟨_, g, h1, h2⟩ := hh k _ hk
        cases hv with
        | ptr hk' hv' =>
          obtain ⟨g', h3, rfl⟩ := hv' _ h1 rfl
          simp [Blk.loc] at h3
          subst h3
          obtain ⟨_, ccs, ty, h4, h5, _, h6⟩ := h2
          refine ⟨g', off, rfl, fun j x hj => ?_⟩
          rw [List.getElem?_take] at hj
          split at hj
          · rw [List.getElem?_drop] at hj
            have hr := h6 (off + j) x hj
            have hlt : off + j < cells.length := (List.getElem?_eq_some_iff.1 hj).1
            have hlt' : off + j < ccs.size := Nat.lt_of_lt_of_le hlt h5
            refine ⟨ccs.getD (off + j) Go.undef, ?_, hr⟩
            simp [World.cell?, h4, hlt']
          · cases hj
    · cases hl
  · rename_i k m i off
    split at hl
    · rename_i xs sz e hk
      split at hl
      · rename_i hm
        split at hl
        · rename_i el hel
          have hfit := (acut_spec hl).1
          have hcs := (acut_spec hl).2
          subst hcs
          · refine ⟨by simp; omega, ?_⟩
            obtain ⟨hev, g, h1, h2⟩ := hh k _ hk
            cases hv with
            | rptr hk' hle hv' =>
              obtain ⟨g', h3, rfl⟩ := hv' _ h1 hm
              simp [Blk.loc] at h3
              subst h3
              obtain ⟨_, ccs, ty, h4, h5, _, h6⟩ := h2
              refine ⟨g', _, rfl, fun j x hj => ?_⟩
              rw [List.getElem?_take] at hj
              split at hj
              · rw [List.getElem?_drop] at hj
                have hlt : off + j < el.length := (List.getElem?_eq_some_iff.1 hj).1
                have hfl := flatten_get xs sz i (off + j) el hev hel hlt
                have hr := h6 (i * sz + (off + j)) x (by simp only [Blk.cells]; rw [hfl]; exact hj)
                have hlt2 : i * sz + (off + j) < xs.flatten.length := by
                  have : xs.flatten[i * sz + (off + j)]? = some x := by rw [hfl]; exact hj
                  exact (List.getElem?_eq_some_iff.1 this).1
                have hlt' : i * sz + (off + j) < ccs.size := Nat.lt_of_lt_of_le hlt2 h5
                refine ⟨ccs.getD (i * sz + (off + j)) Go.undef, ?_, hr⟩
                simp [World.cell?, h4, Blk.loc, Blk.sz, Nat.add_assoc, hlt']
              · cases hj
        · cases hl
      · cases hl
    · cases hl
  · rename_i cells
    have hfit := (acut_spec hl).1
    have hcs := (acut_spec hl).2
    subst hcs
    · refine ⟨by simp; omega, ?_⟩
      cases hv with
      | fptr u hS hc hr =>
        refine ⟨_, _, rfl, fun j x hj => ?_⟩
        rw [List.getElem?_take, List.drop_zero] at hj
        split at hj
        · exact ⟨u j, hc j x hj, (hr j x hj).ofNil⟩
        · cases hj
  · cases hl

theorem loadVar_rep {P : Program} {T : TT} (hT : TOk P T) {w : World} {S : Nat → Prop} {φ : Phi} {h : AHeap} {v : Value} {p : AV} {t : TypeId} {d : TD} {cs : List AV} (hd : T t = some d) (hh : HLive w S φ h) (hv : Rep w S φ v p) (hl : aload h p d.size = some cs) :
    (d.kind.agg = true → ∃ vs, (Instr.loadAt t v).run P w = .ok (.agg vs) w ∧ Rep w S φ (.agg vs) (.agg cs)) ∧
    (d.kind.agg = false → ∀ x, cs[0]? = some x → ∃ u, (Instr.loadAt t v).run P w = .ok u w ∧ Rep w S φ u x) := by
  obtain ⟨hlen, b, off, rfl, hc⟩ := load_rep hh hv hl
  have ha := run_isAgg hT hd w
  have hs := run_sizeT hT hd w
  constructor
  · intro hagg
    have hcell : ∀ j, j < d.size → ∃ u, w.cell? ⟨b, off + j, none⟩ = some u := fun j hj => by
      obtain ⟨u, h1, _⟩ := hc j cs[j] (List.getElem?_eq_getElem (by omega))
      exact ⟨u, h1⟩
    have hrun := run_loadCells (P := P) w ⟨b, off, none⟩ d.size (fun j => (w.cell? ⟨b, off + j, none⟩).getD Go.undef) (fun j hj => by
      obtain ⟨u, h1⟩ := hcell j hj
      rw [Addr.add_mid, h1]; rfl)
    refine ⟨((List.range d.size).map fun j => (w.cell? ⟨b, off + j, none⟩).getD Go.undef).toArray, ?_, ?_⟩
    · simp only [Instr.loadAt, Instr.sureAddr, loadVar, Sem.run_bind, Sem.run_pure, Result.andThen_ok, ha, hagg, if_true, hs, hrun]
    · refine .agg (by simp [hlen]) fun j x hj => ?_
      obtain ⟨u, h1, h2⟩ := hc j x hj
      have hjl : j < d.size := by rw [← hlen]; exact (List.getElem?_eq_some_iff.1 hj).1
      have : (((List.range d.size).map fun j => (w.cell? ⟨b, off + j, none⟩).getD Go.undef).toArray).getD j Go.undef = u := by
        simp [Array.getD_eq_getD_getElem?, hjl, h1]
      rw [this]; exact h2
  · intro hagg x hx
    obtain ⟨u, h1, h2⟩ := hc 0 x hx
    refine ⟨u, ?_, h2⟩
    simp only [Instr.loadAt, Instr.sureAddr, loadVar, Sem.run_bind, Sem.run_pure, Result.andThen_ok, ha, hagg, Bool.false_eq_true, if_false, run_load]
    simp only [Nat.add_zero] at h1
    simp [h1]

/-! ### the evaluator -/
def aoff (h : AHeap) (p : AV) (n : Nat) : Option AV :=
  match p with
  | .ptr k off => match h[k]? with
    | some (some (.var _)) => some (.ptr k (off + n))
    | _ => none
  | .rptr k m i off => match h[k]? with
    | some (some (.row xs _ _)) => if xs.length = m then (if i < m then some (.rptr k m i (off + n)) else none) else none
    | _ => none
  | .fptr cs => some (.fptr (cs.drop n))
  | _ => none

def abin (op : BinOp) (x y : AV) : Option AV :=
  match op, x, y with
  | .shl, .int k a, .int _ b => if b < 0 then none else some (.int k (k.wrap (a * 2 ^ (min b.toNat k.bits))))
  | .shr, .int k a, .int _ b => if b < 0 then none else some (.int k (a.fdiv (2 ^ (min b.toNat k.bits))))
  | .add, .int k a, .int k' b => if k = k' then some (.int k (k.wrap (a + b))) else none
  | .sub, .int k a, .int k' b => if k = k' then some (.int k (k.wrap (a - b))) else none
  | .mul, .int k a, .int k' b => if k = k' then some (.int k (k.wrap (a * b))) else none
  | .quo, .int k a, .int k' b => if k = k' then (if b = 0 then none else some (.int k (k.wrap (a.tdiv b)))) else none
  | .rem, .int k a, .int k' b => if k = k' then (if b = 0 then none else some (.int k (a.tmod b))) else none
  | .and, .int k a, .int k' b => if k = k' then some (.int k (k.wrap (BitVec.ofInt k.bits a &&& BitVec.ofInt k.bits b).toNat)) else none
  | .or, .int k a, .int k' b => if k = k' then some (.int k (k.wrap (BitVec.ofInt k.bits a ||| BitVec.ofInt k.bits b).toNat)) else none
  | .xor, .int k a, .int k' b => if k = k' then some (.int k (k.wrap (BitVec.ofInt k.bits a ^^^ BitVec.ofInt k.bits b).toNat)) else none
  | .eql, .int k a, .int k' b => if k = k' then some (.bool (a == b)) else none
  | .neq, .int k a, .int k' b => if k = k' then some (.bool (a != b)) else none
  | .lss, .int k a, .int k' b => if k = k' then some (.bool (decide (a < b))) else none
  | .leq, .int k a, .int k' b => if k = k' then some (.bool (decide (a ≤ b))) else none
  | .gtr, .int k a, .int k' b => if k = k' then some (.bool (decide (a > b))) else none
  | .geq, .int k a, .int k' b => if k = k' then some (.bool (decide (a ≥ b))) else none
  | _, _, _ => none

/-- '==' and '!=' of two bools. -/
def aeqb (op : BinOp) (x y : AV) : Option AV :=
  match op, x, y with
  | .eql, .bool a, .bool b => some (.bool (a == b))
  | .neq, .bool a, .bool b => some (.bool (!(a == b)))
  | _, _, _ => none

def alen (x : AV) : Option AV :=
  match x with
  | .nilsl => some (.int .i64 0)
  | .list xs => some (.int .i64 xs.length)
  | .str s => some (.int .i64 s.size)
  | _ => none

/-- Cells at a place of others. -/
def splice (off : Nat) (vs cs : List AV) : List AV := cs.take off ++ vs ++ cs.drop (off + vs.length)
def AV.cellsOf : AV → List AV
  | .agg cs => cs
  | x => [x]
/-- Parts laid into cells: where each begins, and how many cells it has. -/
def afill (place : Nat → Option (Nat × Nat)) (cells : List AV) : List (Nat × AV) → Option (List AV)
  | [] => some cells
  | (i, x) :: rest =>
    match place i with
    | none => none
    | some (off, size) => if x.cellsOf.length = size then (if off + size ≤ cells.length then afill place (splice off x.cellsOf cells) rest else none) else none

def apart (T : TT) (t : TypeId) (cs : List AV) (off : Nat) : Option AV :=
  match T t with
  | some d => if d.kind.agg then (if off + d.size ≤ cs.length then some (.agg ((cs.drop off).take d.size)) else none) else cs[off]?
  | none => none

def apure (T : TT) (o : Oper) (ρ : Operand → AV) (hp : AHeap) : Option AV :=
  match o.op with
  | .move x | .assign x => some (ρ x)
  | .pick c a b => match ρ c with
    | .bool true => some (ρ a)
    | .bool false => some (ρ b)
    | _ => none
  | .nilCheck x => match ρ x with
    | .fn f a b => some (.fn f a b)
    | p => aoff hp p 0
  | .load t a => match T t with
    | some d => match aload hp (ρ a) d.size with
      | some cs => if d.kind.agg then some (.agg cs) else cs[0]?
      | none => none
    | none => none
  | .fieldAddr s x f => match T s with
    | some d => match d.kind with
      | .struct fs => match fs[f]? with
        | some (off, ft) => match T ft with
          | some fd => if fd.size = 0 then none else aoff hp (ρ x) off
          | none => none
        | none => none
      | _ => none
    | none => none
  | .field t x f => match T t, ρ x with
    | some d, .agg cs => match d.kind with
      | .struct fs => match fs[f]? with
        | some (off, ft) => apart T ft cs off
        | none => none
      | _ => none
    | _, _ => none
  | .binOp op t x y _ => match abin op (ρ x) (ρ y) with
    | some r => some r
    | none => match T t with
      | some d => match d.kind with
        | .bool => aeqb op (ρ x) (ρ y)
        | _ => none
      | none => none
  | .unOp op _ x => match op, ρ x with
    | .not, .bool b => some (.bool !b)
    | .neg, .int k n => some (.int k (k.wrap (0 - n)))
    | _, _ => none
  | .convert src dst x => match T src, T dst, ρ x with
    | some _, some d, .int _ n => match d.kind with
      | .int k => some (.int k (k.wrap n))
      | _ => none
    | _, _, _ => none
  | .extract x i => match ρ x with
    | .tuple xs => xs[i]?
    | _ => none
  | .makeFunc (.func f) first cap => some (.fn f (first.toList.map ρ) (cap.toList.map ρ))
  | .makeInterface t x => match T t with
    | some d => match d.kind with
      | .iface => none
      | _ => some (.iface t (ρ x))
    | none => none
  | .call c => match c.callee, c.args.toList, c.argTypes.toList with
    | .builtin .len, [x], [t] => match T t with
      | some d => match d.kind, ρ x with
        | .slice _, .nilsl => some (.int .i64 0)
        | .slice _, .list xs => some (.int .i64 xs.length)
        | .str, .str s => some (.int .i64 s.size)
        | .array n _, _ => some (.int .i64 n)
        | _, _ => none
      | none => none
    | _, _, _ => none
  | _ => none

section
variable {P : Program} {T : TT}

theorem aoff_rep {w : World} {S : Nat → Prop} {φ : Phi} {h : AHeap} {v : Value} {p q : AV} {n : Nat} (hh : HLive w S φ h) (hv : Rep w S φ v p) (hq : aoff h p n = some q) :
    ∃ b off, v = .pointer (some ⟨b, off, none⟩) ∧ Rep w S φ (.pointer (some ⟨b, off + n, none⟩)) q := by
  unfold aoff at hq
  split at hq
  · rename_i k off
    split at hq
    · rename_i cells hk
      cases hq
      obtain ⟨_, g, h1, h2⟩ := hh k _ hk
      cases hv with
      | ptr hk' hv' =>
        obtain ⟨g', h3, rfl⟩ := hv' _ h1 rfl
        refine ⟨g', off, rfl, .ptr hk' fun L hL hn => ?_⟩
        rw [h1] at hL; cases hL
        exact ⟨g', h3, rfl⟩
    · cases hq
  · rename_i k m i off
    split at hq
    · rename_i xs sz e hk
      split at hq
      · rename_i hm
        split at hq
        · cases hq
          obtain ⟨_, g, h1, h2⟩ := hh k _ hk
          cases hv with
          | rptr hk' hle hv' =>
            obtain ⟨g', h3, rfl⟩ := hv' _ h1 hm
            refine ⟨g', _, rfl, .rptr hk' hle fun L hL hn => ?_⟩
            rw [h1] at hL; cases hL
            exact ⟨g', h3, by rw [Nat.add_assoc]⟩
        · cases hq
      · cases hq
    · cases hq
  · rename_i cs
    cases hq
    cases hv with
    | fptr u hS hc hr =>
      refine ⟨_, _, rfl, .fptr (fun j => u (n + j)) hS (fun j x hj => ?_) (fun j x hj => ?_)⟩
      · rw [List.getElem?_drop] at hj
        rw [Nat.add_assoc]
        exact hc _ x hj
      · rw [List.getElem?_drop] at hj
        exact hr _ x hj
  · cases hq

theorem addr_add (b o n : Nat) : (⟨b, o, none⟩ : Addr).add n = ⟨b, o + n, none⟩ := Addr.add_mid b o n

theorem kind_struct {u : TypeDesc} {fs : List (Nat × TypeId)} (h : kindOk u (.struct fs) = true) : ∃ F, u = .struct F ∧ F.toList.map (fun f => (f.offset, f.type)) = fs := by
  cases u <;> simp [kindOk] at h
  exact ⟨_, rfl, by simpa using h⟩
theorem kind_slice {u : TypeDesc} {e : TypeId} (h : kindOk u (.slice e) = true) : u = .slice e := by
  cases u <;> simp [kindOk] at h
  subst h; rfl
theorem kind_array {u : TypeDesc} {n : Nat} {e : TypeId} (h : kindOk u (.array n e) = true) : u = .array n e := by
  cases u <;> simp [kindOk] at h
  obtain ⟨rfl, rfl⟩ := h; rfl
theorem kind_int {u : TypeDesc} {k : IntKind} (h : kindOk u (.int k) = true) : u = .int k := by
  cases u <;> simp [kindOk] at h
  subst h; rfl
theorem kind_bool {u : TypeDesc} (h : kindOk u .bool = true) : u = .bool := by cases u <;> simp [kindOk] at h; rfl
theorem kind_str {u : TypeDesc} (h : kindOk u .str = true) : u = .string := by cases u <;> simp [kindOk] at h; rfl

theorem field_get {F : Array Field} {fs : List (Nat × TypeId)} {f off : Nat} {ft : TypeId} (h : F.toList.map (fun f => (f.offset, f.type)) = fs) (hf : fs[f]? = some (off, ft)) : ∃ fl, F[f]? = some fl ∧ fl.offset = off ∧ fl.type = ft := by
  rw [← h, List.getElem?_map] at hf
  simp only [Option.map_eq_some_iff] at hf
  obtain ⟨fl, h1, h2⟩ := hf
  simp only [Prod.mk.injEq] at h2
  exact ⟨fl, by simpa using h1, h2.1, h2.2⟩

theorem fieldAt_rep (hT : TOk P T) {w : World} {S : Nat → Prop} {φ : Phi} {h : AHeap} {v : Value} {p q : AV} {s ft : TypeId} {d fd : TD} {fs : List (Nat × TypeId)} {f off : Nat}
    (hd : T s = some d) (hk : d.kind = .struct fs) (hf : fs[f]? = some (off, ft)) (hfd : T ft = some fd) (hne : ¬ fd.size = 0) (hh : HLive w S φ h) (hv : Rep w S φ v p) (hq : aoff h p off = some q) :
    ∃ u, (Instr.fieldAt s v f).run P w = .ok u w ∧ Rep w S φ u q := by
  obtain ⟨i, u, h1, h2, h3, _, h5, _⟩ := hT.get hd
  rw [hk] at h5
  obtain ⟨F, rfl, hF⟩ := kind_struct h5
  obtain ⟨fl, g1, g2, g3⟩ := field_get hF hf
  obtain ⟨b, o, rfl, hr⟩ := aoff_rep hh hv hq
  refine ⟨_, ?_, hr⟩
  have hs := run_sizeT hT hfd w
  rw [← g3] at hs
  simp only [Instr.fieldAt, Sem.run_bind, run_underlying h2, Result.andThen_ok, g1, Instr.sureAddr, Sem.run_pure, fieldPlace, hs, Sem.run_ite, hne, if_false, addr_add, g2]

theorem binop_rep {w : World} {S : Nat → Prop} {φ : Phi} {op : BinOp} {t : TypeId} {u v : Value} {x y r : AV} (xo yo : Operand) (h : abin op x y = some r) (hu : Rep w S φ u x) (hv : Rep w S φ v y) :
    ∃ z, (do eqGuard op t xo yo u v; binOp op t u v : Sem Value).run P w = .ok z w ∧ Rep w S φ z r := by
  unfold abin at h
  split at h
  case h_17 => cases h
  all_goals
    cases hu
    cases hv
    (try split at h) <;> (try split at h) <;> first | cases h | skip
    all_goals
      refine ⟨_, ?_, by constructor⟩
      simp [eqGuard, binOp, Op.shift, Op.intArith, Op.intDiv, Op.intBits, Op.intCmp, *]

theorem eqb_rep (hT : TOk P T) {w : World} {S : Nat → Prop} {φ : Phi} {op : BinOp} {t : TypeId} {d : TD} {u v : Value} {x y r : AV} (xo yo : Operand) (hd : T t = some d) (hk : d.kind = .bool) (h : aeqb op x y = some r) (hu : Rep w S φ u x) (hv : Rep w S φ v y) :
    ∃ z, (do eqGuard op t xo yo u v; binOp op t u v : Sem Value).run P w = .ok z w ∧ Rep w S φ z r := by
  obtain ⟨i, ut, h1, h2, h3, _, h5, _⟩ := hT.get hd
  rw [hk] at h5
  have := kind_bool h5
  subst this
  have heq : ∀ a b : Bool, (Op.equal t (.bool a) (.bool b)).run P w = .ok (a == b) w := fun a b => by
    unfold Op.equal Op.maxDepth
    rw [show (10000 : Nat) = 9999 + 1 from rfl, Op.equalIn, Sem.run_bind, run_underlying h2]
    rfl
  unfold aeqb at h
  split at h
  case h_3 => cases h
  case h_1 a b =>
    cases hu
    cases hv
    cases h
    refine ⟨_, ?_, .bool _⟩
    show ((eqGuard .eql t xo yo (.bool a) (.bool b)).bind fun _ => (Op.equal t (.bool a) (.bool b)).bind fun r => Sem.pure (Value.bool r)).run P w = _
    have hg : (eqGuard .eql t xo yo (.bool a) (.bool b)).run P w = .ok () w := rfl
    have := Sem.run_bind' P (eqGuard .eql t xo yo (.bool a) (.bool b)) (fun _ => (Op.equal t (.bool a) (.bool b)).bind fun r => Sem.pure (Value.bool r)) w
    rw [this, hg, Result.andThen_ok, Sem.run_bind', heq, Result.andThen_ok]
    rfl
  case h_2 a b =>
    cases hu
    cases hv
    cases h
    refine ⟨_, ?_, .bool _⟩
    show ((eqGuard .neq t xo yo (.bool a) (.bool b)).bind fun _ => (Op.equal t (.bool a) (.bool b)).bind fun r => Sem.pure (Value.bool !r)).run P w = _
    have hg : (eqGuard .neq t xo yo (.bool a) (.bool b)).run P w = .ok () w := rfl
    have := Sem.run_bind' P (eqGuard .neq t xo yo (.bool a) (.bool b)) (fun _ => (Op.equal t (.bool a) (.bool b)).bind fun r => Sem.pure (Value.bool !r)) w
    rw [this, hg, Result.andThen_ok, Sem.run_bind', heq, Result.andThen_ok]
    rfl

theorem part_rep (hT : TOk P T) {w : World} {S : Nat → Prop} {φ : Phi} {ft : TypeId} {vs : Array Value} {cs : List AV} {off : Nat} {r : AV} (h : apart T ft cs off = some r) (hv : Rep w S φ (.agg vs) (.agg cs)) :
    ∃ z, (part ft vs off).run P w = .ok z w ∧ Rep w S φ z r := by
  cases hv with
  | agg hl hr =>
    unfold apart at h
    split at h
    · rename_i d hd
      have ha := run_isAgg hT hd w
      have hs := run_sizeT hT hd w
      split at h
      · rename_i hagg
        split at h
        · rename_i hfit
          cases h
          refine ⟨.agg (vs.extract off (off + d.size)), ?_, .agg (by simp; omega) fun j x hj => ?_⟩
          · simp only [part, Sem.run_bind, ha, hagg, Result.andThen_ok, if_true, hs, Sem.run_pure]
          · rw [List.getElem?_take] at hj
            split at hj
            · rename_i hjd
              rw [List.getElem?_drop] at hj
              have := hr _ x hj
              have hlt : off + j < vs.size := by rw [hl]; exact (List.getElem?_eq_some_iff.1 hj).1
              have e : (vs.extract off (off + d.size)).getD j Go.undef = vs.getD (off + j) Go.undef := by
                rw [Array.getD_eq_getD_getElem?, Array.getD_eq_getD_getElem?, Array.getElem?_extract, if_pos (by omega)]
              rw [e]; exact this
            · cases hj
        · cases h
      · rename_i hagg
        have := hr off r h
        have hlt : off < vs.size := by rw [hl]; exact (List.getElem?_eq_some_iff.1 h).1
        refine ⟨vs.getD off Go.undef, ?_, this⟩
        simp only [part, Sem.run_bind, ha, hagg, Result.andThen_ok, Bool.false_eq_true, if_false]
        simp [hlt]
    · cases h

theorem field_rep (hT : TOk P T) {w : World} {S : Nat → Prop} {φ : Phi} {t ft : TypeId} {d : TD} {fs : List (Nat × TypeId)} {f off : Nat} {u : Value} {cs : List AV} {r : AV} (hd : T t = some d) (hk : d.kind = .struct fs) (hf : fs[f]? = some (off, ft)) (h : apart T ft cs off = some r) (hu : Rep w S φ u (.agg cs)) :
    ∃ z, (Instr.field t u f).run P w = .ok z w ∧ Rep w S φ z r := by
  obtain ⟨i, ut, h1, h2, h3, _, h5, _⟩ := hT.get hd
  rw [hk] at h5
  obtain ⟨F, rfl, hF⟩ := kind_struct h5
  obtain ⟨fl, g1, g2, g3⟩ := field_get hF hf
  have hu' := hu
  cases hu' with
  | agg hl hr =>
    obtain ⟨z, k1, k2⟩ := part_rep hT h hu
    refine ⟨z, ?_, k2⟩
    simp only [Instr.field, Sem.run_bind, run_underlying h2, Result.andThen_ok, g1, asAgg, Sem.run_pure, g2, g3, k1]

theorem rep_list_inv {w : World} {S : Nat → Prop} {φ : Phi} {v : Value} {xs : List (List AV)} (h : Rep w S φ v (.list xs)) : ∃ a c, v = .slice a xs.length c ∧ xs.length ≤ c := by
  cases h with
  | nil => exact ⟨_, _, rfl, Nat.zero_le _⟩
  | list u hS hlen hcap hsz hc hr => subst hlen; exact ⟨_, _, rfl, hcap⟩

theorem apure_sound (hT : TOk P T) {o : Oper} {ρ : Operand → AV} {hp : AHeap} {x : AV} (h : apure T o ρ hp = some x) {w : World} {S : Nat → Prop} {φ : Phi} (a : Act) (hh : HLive w S φ hp)
    (ev : ∀ y ∈ o.op.operands, Rep w S φ (a.eval y) (ρ y)) : ∃ v, (execOp a.eval o).run P w = .ok (.value v) w ∧ Rep w S φ v x := by
  unfold apure at h
  unfold execOp
  split at h
  · rename_i y ho; simp only [ho]; cases h; exact ⟨_, rfl, ev y (by simp [ho, Op.operands, Call.operands])⟩
  · rename_i y ho; simp only [ho]; cases h; exact ⟨_, rfl, ev y (by simp [ho, Op.operands, Call.operands])⟩
  · rename_i c p q ho
    simp only [ho]
    have hc := ev c (by simp [ho, Op.operands, Call.operands])
    split at h
    · rename_i hb; rw [hb] at hc; cases h
      generalize a.eval c = z at hc
      cases hc
      exact ⟨_, rfl, ev p (by simp [ho, Op.operands, Call.operands])⟩
    · rename_i hb; rw [hb] at hc; cases h
      generalize a.eval c = z at hc
      cases hc
      exact ⟨_, rfl, ev q (by simp [ho, Op.operands, Call.operands])⟩
    · cases h
  · rename_i y ho
    simp only [ho]
    have hc := ev y (by simp [ho, Op.operands, Call.operands])
    split at h
    · rename_i f fs cs hb; rw [hb] at hc; cases h
      obtain ⟨first, cap, hv, t1, t2⟩ := rep_fn_inv hc
      rw [hv] at hc ⊢
      exact ⟨_, rfl, hc⟩
    · obtain ⟨b, off, hv, hr⟩ := aoff_rep hh hc h
      rw [hv]
      exact ⟨_, rfl, hr⟩
  · rename_i t y ho
    simp only [ho]
    split at h
    · rename_i d hd
      split at h
      · rename_i cs hcs
        obtain ⟨h1, h2⟩ := loadVar_rep hT hd hh (ev y (by simp [ho, Op.operands, Call.operands])) hcs
        split at h
        · rename_i hagg
          cases h
          obtain ⟨vs, k1, k2⟩ := h1 hagg
          exact ⟨_, by simp only [Sem.run_bind, k1, Result.andThen_ok, Sem.run_pure], k2⟩
        · rename_i hagg
          obtain ⟨u, k1, k2⟩ := h2 (by simpa using hagg) x h
          exact ⟨_, by simp only [Sem.run_bind, k1, Result.andThen_ok, Sem.run_pure], k2⟩
      · cases h
    · cases h
  · rename_i s y f ho
    simp only [ho]
    split at h
    · rename_i d hd
      split at h
      · rename_i fs hk
        split at h
        · rename_i off ft hf
          split at h
          · rename_i fd hfd
            split at h
            · cases h
            · rename_i hne
              obtain ⟨u, k1, k2⟩ := fieldAt_rep hT hd hk hf hfd hne hh (ev y (by simp [ho, Op.operands, Call.operands])) h
              exact ⟨_, by simp only [Sem.run_bind, k1, Result.andThen_ok, Sem.run_pure], k2⟩
          · cases h
        · cases h
      · cases h
    · cases h
  · rename_i t y f ho
    simp only [ho]
    have hy := ev y (by simp [ho, Op.operands, Call.operands])
    split at h
    · rename_i d cs hd hc
      rw [hc] at hy
      split at h
      · rename_i fs hk
        split at h
        · rename_i off ft hf
          obtain ⟨u, k1, k2⟩ := field_rep hT hd hk hf h hy
          exact ⟨_, by simp only [Sem.run_bind, k1, Result.andThen_ok, Sem.run_pure], k2⟩
        · cases h
      · cases h
    · cases h
  · rename_i op t y z yt ho
    simp only [ho]
    have hy := ev y (by simp [ho, Op.operands, Call.operands])
    have hz := ev z (by simp [ho, Op.operands, Call.operands])
    split at h
    · rename_i r hr
      cases h
      obtain ⟨u, k1, k2⟩ := binop_rep (P := P) (t := t) y z hr hy hz
      exact ⟨_, by rw [Sem.run_bind, k1, Result.andThen_ok, Sem.run_pure], k2⟩
    · split at h
      · rename_i d hd
        split at h
        · rename_i hk
          obtain ⟨u, k1, k2⟩ := eqb_rep hT y z hd hk h hy hz
          exact ⟨_, by rw [Sem.run_bind, k1, Result.andThen_ok, Sem.run_pure], k2⟩
        · cases h
      · cases h
  · rename_i op t y ho
    simp only [ho]
    have hy := ev y (by simp [ho, Op.operands, Call.operands])
    split at h
    · rename_i b hb; rw [hb] at hy; cases h
      generalize a.eval y = z at hy
      cases hy
      exact ⟨_, rfl, .bool _⟩
    · rename_i k n hb; rw [hb] at hy; cases h
      generalize a.eval y = z at hy
      cases hy
      exact ⟨_, rfl, .int _ _⟩
    · cases h
  · rename_i src dst y ho
    simp only [ho]
    have hy := ev y (by simp [ho, Op.operands, Call.operands])
    split at h
    · rename_i ds d k n hds hd hn
      rw [hn] at hy
      split at h
      · rename_i k' hk
        cases h
        obtain ⟨i, ut, h1, h2, h3, _, h5, _⟩ := hT.get hd
        obtain ⟨i', ut', g1, g2, g3, _, g5, _⟩ := hT.get hds
        rw [hk] at h5
        rw [kind_int h5] at h2
        generalize a.eval y = z at hy
        cases hy
        refine ⟨.int k' (k'.wrap n), ?_, .int _ _⟩
        simp only [convert, Sem.run_bind, run_underlying h2, run_underlying g2, Result.andThen_ok, Sem.run_pure]
        cases ut' <;> rfl
      · cases h
    · cases h
  · rename_i y i ho
    simp only [ho]
    have hy := ev y (by simp [ho, Op.operands, Call.operands])
    split at h
    · rename_i xs hb
      rw [hb] at hy
      generalize a.eval y = z at hy
      cases hy with
      | tuple hl hr =>
        have := hr i x h
        rename_i vs
        have hlt : i < vs.size := by rw [hl]; exact (List.getElem?_eq_some_iff.1 h).1
        refine ⟨vs.getD i Go.undef, ?_, this⟩
        simp [Instr.extract, hlt]
    · cases h
  · rename_i f first cap ho
    simp only [ho]
    cases h
    refine ⟨_, rfl, .fn (by simp) (by simp) (fun j z hj => ?_) (fun j z hj => ?_)⟩
    · simp only [List.getElem?_map, Array.getElem?_toList, Option.map_eq_some_iff] at hj
      obtain ⟨y, hy, rfl⟩ := hj
      have := ev y (by simp [ho, Op.operands]; exact .inl (Array.mem_of_getElem? hy))
      simpa [Array.getD_eq_getD_getElem?, hy] using this
    · simp only [List.getElem?_map, Array.getElem?_toList, Option.map_eq_some_iff] at hj
      obtain ⟨y, hy, rfl⟩ := hj
      have := ev y (by simp [ho, Op.operands]; exact .inr (Array.mem_of_getElem? hy))
      simpa [Array.getD_eq_getD_getElem?, hy] using this
  · rename_i t y ho
    simp only [ho]
    split at h
    · rename_i d hd
      obtain ⟨i, ut, h1, h2, h3, _, h5, _⟩ := hT.get hd
      split at h
      · cases h
      · rename_i hk
        cases h
        refine ⟨_, ?_, .iface t (ev y (by simp [ho, Op.operands, Call.operands]))⟩
        have : ∀ ms, ut ≠ .interface ms := fun ms e => by
          subst e
          cases hkd : d.kind <;> simp [hkd, kindOk] at h5 hk
        simp only [Instr.makeInterface, Sem.run_bind, run_underlying h2, Result.andThen_ok]
        cases ut <;> first | rfl | exact absurd rfl (this _)
    · cases h
  · rename_i c ho
    simp only [ho]
    split at h
    · rename_i y t hc1 hc2 hc3
      obtain ⟨cal, xs, ts⟩ := c
      simp only at hc1 hc2 hc3
      subst hc1
      have e1 : xs = #[y] := by apply Array.toList_inj.1; simpa using hc2
      have e2 : ts = #[t] := by apply Array.toList_inj.1; simpa using hc3
      subst e1 e2
      have hy := ev y (by simp [ho, Op.operands, Call.operands])
      split at h
      · rename_i d hd
        obtain ⟨i, ut, h1, h2, h3, _, h5, _⟩ := hT.get hd
        have hb : ∀ r, (Builtin.len_ #[t] o.type #[a.eval y]).run P w = .ok r w → (do let d ← resolve a.eval ⟨.builtin .len, #[y], #[t]⟩ o.type; invoke d.target d.args : Sem Next).run P w = .ok (.value r) w := fun r hr => by
          simp [resolve, invoke, builtin, hr]
        split at h
        · rename_i e hk hx
          cases h
          rw [hx] at hy
          rw [hk] at h5
          rw [kind_slice h5] at h2
          refine ⟨.int .i64 0, hb _ ?_, .int _ _⟩
          generalize a.eval y = z at hy
          cases hy
          simp [Builtin.len_, run_underlying h2, goInt]
        · rename_i e xs hk hx
          cases h
          rw [hx] at hy
          rw [hk] at h5
          rw [kind_slice h5] at h2
          refine ⟨.int .i64 xs.length, hb _ ?_, .int _ _⟩
          obtain ⟨A, c, hv, _⟩ := rep_list_inv hy
          rw [hv]
          simp [Builtin.len_, run_underlying h2, goInt]
        · rename_i s hk hx
          cases h
          rw [hx] at hy
          rw [hk] at h5
          rw [kind_str h5] at h2
          refine ⟨.int .i64 s.size, hb _ ?_, .int _ _⟩
          generalize a.eval y = z at hy
          cases hy
          simp [Builtin.len_, run_underlying h2, goInt]
        · rename_i n e hk
          cases h
          rw [hk] at h5
          rw [kind_array h5] at h2
          refine ⟨.int .i64 n, hb _ ?_, .int _ _⟩
          simp [Builtin.len_, run_underlying h2, goInt]
        · cases h
      · cases h
    · cases h
  · cases h

end
end Go.Proofs.Ytpckfpahmnhfcaa.G
