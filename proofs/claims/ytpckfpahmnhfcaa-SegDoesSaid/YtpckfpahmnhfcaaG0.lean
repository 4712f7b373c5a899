/- A ghost machine over the model: abstract values whose frozen slices are plain lists, abstract heaps of a call's own blocks; how they stand to the model's values and worlds. No program in sight. -/
import Derived.Orders
import Derived.Below
import Derived.Tactics
import Derived.KernelRfl
import Derived.Defers
namespace Go.Proofs.Ytpckfpahmnhfcaa.G
open Go Go.RowKit
set_option linter.unusedVariables false

/-- Abstract values. -/
inductive AV where
  | any | undef
  | bool (b : Bool)
  | int (k : IntKind) (n : Int)
  | str (s : ByteArray)
  | nilsl
  | list (xs : List (List AV))
  | own (k n : Nat)
  | ptr (k off : Nat)
  | rptr (k n i off : Nat)
  | win (k off len cap : Nat)
  | nilptr
  | fptr (cs : List AV)
  | fn (f : FuncId) (first cap : List AV)
  | nilfn
  | iface (t : TypeId) (x : AV)
  | nilIface
  | agg (cs : List AV)
  | tuple (xs : List AV)

instance : Inhabited AV := ⟨.any⟩

structure Loc where
  g : Option Nat
  n : Nat
  sz : Nat
  e : TypeId

/-- none: not laid yet; some none: dead. -/
abbrev Phi := Nat → Option (Option Loc)

def Phi.nil : Phi := fun _ => none

def OwnAt (w : World) (L : Loc) (v : Value) : Prop :=
  match L.g with
  | none => L.n = 0 ∧ ∃ a, v = .slice a 0 0
  | some g => ∃ cap cs, v = .slice (some ⟨g, 0, none⟩) L.n cap ∧ L.n ≤ cap ∧ w.heap[g]? = some (.cells cs L.e (0, 0)) ∧ cs.size = cap * L.sz

inductive Rep (w : World) (S : Nat → Prop) : Phi → Value → AV → Prop
  | any {φ v} : Rep w S φ v .any
  | undef {φ} : Rep w S φ Go.undef .undef
  | bool {φ} (b) : Rep w S φ (.bool b) (.bool b)
  | int {φ} (k n) : Rep w S φ (.int k n) (.int k n)
  | str {φ} (s) : Rep w S φ (.string s) (.str s)
  | nilsl {φ a} : Rep w S φ (.slice a 0 0) .nilsl
  | nil {φ a c} : Rep w S φ (.slice a 0 c) (.list [])
  | list {φ b off len cap sz} {xs : List (List AV)} (u : Nat → Value) (hS : S b) (hlen : xs.length = len) (hcap : len ≤ cap) (hsz : ∀ e ∈ xs, e.length = sz)
      (hc : ∀ j x, xs.flatten[j]? = some x → w.cell? ⟨b, off + j, none⟩ = some (u j))
      (hr : ∀ j x, xs.flatten[j]? = some x → Rep w S Phi.nil (u j) x) : Rep w S φ (.slice (some ⟨b, off, none⟩) len cap) (.list xs)
  | own {φ v k n} (hk : φ k ≠ none) (hle : ∀ L, φ k = some (some L) → n ≤ L.n) (hv : ∀ L, φ k = some (some L) → L.n = n → OwnAt w L v) (h1 : ∃ a l c, v = .slice a l c) : Rep w S φ v (.own k n)
  | ptr {φ v k off} (hk : φ k ≠ none) (hv : ∀ L, φ k = some (some L) → L.n = 0 → ∃ g, L.g = some g ∧ v = .pointer (some ⟨g, off, none⟩)) : Rep w S φ v (.ptr k off)
  | rptr {φ v k n i off} (hk : φ k ≠ none) (hle : ∀ L, φ k = some (some L) → n ≤ L.n) (hv : ∀ L, φ k = some (some L) → L.n = n → ∃ g, L.g = some g ∧ v = .pointer (some ⟨g, i * L.sz + off, none⟩)) : Rep w S φ v (.rptr k n i off)
  | win {φ v k off len cap} (hk : φ k ≠ none) (hv : ∀ L, φ k = some (some L) → L.n = 0 → ∃ g, L.g = some g ∧ v = .slice (some ⟨g, off, none⟩) len cap) : Rep w S φ v (.win k off len cap)
  | nilptr {φ} : Rep w S φ (.pointer none) .nilptr
  | fptr {φ b off} {cs : List AV} (u : Nat → Value) (hS : S b)
      (hc : ∀ j x, cs[j]? = some x → w.cell? ⟨b, off + j, none⟩ = some (u j))
      (hr : ∀ j x, cs[j]? = some x → Rep w S Phi.nil (u j) x) : Rep w S φ (.pointer (some ⟨b, off, none⟩)) (.fptr cs)
  | fn {φ f first cap} {fs cs : List AV} (h1 : first.size = fs.length) (h2 : cap.size = cs.length) (hf : ∀ j x, fs[j]? = some x → Rep w S φ (first.getD j Go.undef) x)
      (hc : ∀ j x, cs[j]? = some x → Rep w S φ (cap.getD j Go.undef) x) : Rep w S φ (.func (.func f) first cap) (.fn f fs cs)
  | nilfn {φ} : Rep w S φ .nilFunc .nilfn
  | iface {φ v x} (t) (h : Rep w S φ v x) : Rep w S φ (.iface t v) (.iface t x)
  | nilIface {φ} : Rep w S φ .nilIface .nilIface
  | agg {φ vs} {cs : List AV} (hl : vs.size = cs.length) (h : ∀ j x, cs[j]? = some x → Rep w S φ (vs.getD j Go.undef) x) : Rep w S φ (.agg vs) (.agg cs)
  | tuple {φ vs} {cs : List AV} (hl : vs.size = cs.length) (h : ∀ j x, cs[j]? = some x → Rep w S φ (vs.getD j Go.undef) x) : Rep w S φ (.tuple vs) (.tuple cs)

theorem cell_of_heap {w w' : World} {a : Addr} (h : w'.heap[a.block]? = w.heap[a.block]?) : w'.cell? a = w.cell? a := by
  simp only [World.cell?, h]

/-- What carries representations over. -/
structure Step (w : World) (S : Nat → Prop) (φ : Phi) (w' : World) (S' : Nat → Prop) (φ' : Phi) : Prop where
  s : ∀ b, S b → S' b
  keep : ∀ b, S b → w'.heap[b]? = w.heap[b]?
  phi : ∀ k, φ k = none ∨ φ' k = φ k ∨ φ' k = some none ∨ ∃ L L', φ k = some (some L) ∧ φ' k = some (some L') ∧ L.n < L'.n
  shape : ∀ k g n sz e, φ k = some (some ⟨some g, n, sz, e⟩) → φ' k = φ k → ∀ cs ty, w.heap[g]? = some (.cells cs ty (0, 0)) → ∃ cs', w'.heap[g]? = some (.cells cs' ty (0, 0)) ∧ cs'.size = cs.size

section
variable {w w' w'' : World} {S S' S'' : Nat → Prop} {φ φ' φ'' : Phi} {v : Value} {x : AV}

theorem Step.refl (w : World) (S : Nat → Prop) (φ : Phi) : Step w S φ w S φ :=
  ⟨fun _ h => h, fun _ _ => rfl, fun _ => .inr (.inl rfl), fun _ _ _ _ _ _ _ cs _ h => ⟨cs, h, rfl⟩⟩

theorem Step.toNil (h : Step w S φ w' S' φ') : Step w S Phi.nil w' S' Phi.nil :=
  ⟨h.s, h.keep, fun _ => .inl rfl, fun _ _ _ _ _ h => by simp [Phi.nil] at h⟩

theorem OwnAt.step {L : Loc} (h : OwnAt w L v) (hs : ∀ g cs, L.g = some g → w.heap[g]? = some (.cells cs L.e (0, 0)) → ∃ cs', w'.heap[g]? = some (.cells cs' L.e (0, 0)) ∧ cs'.size = cs.size) : OwnAt w' L v := by
  unfold OwnAt at *
  cases hg : L.g with
  | none => rw [hg] at h; exact h
  | some g =>
    rw [hg] at h
    obtain ⟨cap, cs, e1, e2, e3, e4⟩ := h
    obtain ⟨cs', e5, e6⟩ := hs g cs hg e3
    exact ⟨cap, cs', e1, e2, e5, e6.trans e4⟩

theorem Rep.step (h : Rep w S φ v x) : ∀ {φ'}, Step w S φ w' S' φ' → Rep w' S' φ' v x := by
  induction h with
  | any => intro φ' _; exact .any
  | undef => intro φ' _; exact .undef
  | bool b => intro φ' _; exact .bool b
  | int k n => intro φ' _; exact .int k n
  | str s => intro φ' _; exact .str s
  | nilsl => intro φ' _; exact .nilsl
  | nil => intro φ' _; exact .nil
  | list u hS hlen hcap hsz hc hr ih =>
    intro φ' st
    exact .list u (st.s _ hS) hlen hcap hsz (fun j x hj => (cell_of_heap (st.keep _ hS)).trans (hc j x hj)) (fun j x hj => ih j x hj st.toNil)
  | @own φ v k n hk hle hv h1' =>
    intro φ' st
    rcases st.phi k with h | h | h | ⟨L, L', h1, h2, h3⟩
    · exact absurd h hk
    · refine .own (by rw [h]; exact hk) (fun L hL => hle L (h ▸ hL)) (fun L hL hn => ?_) h1'
      have hL' : φ k = some (some L) := h ▸ hL
      refine (hv L hL' hn).step fun g cs hg hw => ?_
      exact st.shape k g L.n L.sz L.e (by rw [hL', ← hg]) h cs L.e hw
    · exact .own (by rw [h]; simp) (fun L hL => by rw [h] at hL; simp at hL) (fun L hL => by rw [h] at hL; simp at hL) h1'
    · refine .own (by rw [h2]; simp) (fun L1 hL => ?_) (fun L1 hL hn => ?_) h1'
      · rw [h2] at hL; cases hL; have := hle L h1; omega
      · rw [h2] at hL; cases hL; have := hle L h1; omega
  | @ptr φ v k off hk hv =>
    intro φ' st
    rcases st.phi k with h | h | h | ⟨L, L', h1, h2, h3⟩
    · exact absurd h hk
    · exact .ptr (by rw [h]; exact hk) (fun L hL hn => hv L (h ▸ hL) hn)
    · exact .ptr (by rw [h]; simp) (fun L hL => by rw [h] at hL; simp at hL)
    · refine .ptr (by rw [h2]; simp) (fun L1 hL hn => ?_)
      rw [h2] at hL; cases hL; omega
  | @rptr φ v k n i off hk hle hv =>
    intro φ' st
    rcases st.phi k with h | h | h | ⟨L, L', h1, h2, h3⟩
    · exact absurd h hk
    · exact .rptr (by rw [h]; exact hk) (fun L hL => hle L (h ▸ hL)) (fun L hL hn => hv L (h ▸ hL) hn)
    · exact .rptr (by rw [h]; simp) (fun L hL => by rw [h] at hL; simp at hL) (fun L hL => by rw [h] at hL; simp at hL)
    · refine .rptr (by rw [h2]; simp) (fun L1 hL => ?_) (fun L1 hL hn => ?_)
      · rw [h2] at hL; cases hL; have := hle L h1; omega
      · rw [h2] at hL; cases hL; have := hle L h1; omega
  | @win φ v k off len cap hk hv =>
    intro φ' st
    rcases st.phi k with h | h | h | ⟨L, L', h1, h2, h3⟩
    · exact absurd h hk
    · exact .win (by rw [h]; exact hk) (fun L hL hn => hv L (h ▸ hL) hn)
    · exact .win (by rw [h]; simp) (fun L hL => by rw [h] at hL; simp at hL)
    · refine .win (by rw [h2]; simp) (fun L1 hL hn => ?_)
      rw [h2] at hL; cases hL; omega
  | nilptr => intro φ' _; exact .nilptr
  | fptr u hS hc hr ih =>
    intro φ' st
    exact .fptr u (st.s _ hS) (fun j x hj => (cell_of_heap (st.keep _ hS)).trans (hc j x hj)) (fun j x hj => ih j x hj st.toNil)
  | fn h1 h2 hf hc ih1 ih2 => intro φ' st; exact .fn h1 h2 (fun j x hj => ih1 j x hj st) (fun j x hj => ih2 j x hj st)
  | nilfn => intro φ' _; exact .nilfn
  | iface t h ih => intro φ' st; exact .iface t (ih st)
  | nilIface => intro φ' _; exact .nilIface
  | agg hl h ih => intro φ' st; exact .agg hl (fun j x hj => ih j x hj st)
  | tuple hl h ih => intro φ' st; exact .tuple hl (fun j x hj => ih j x hj st)

theorem Step.trans (h : Step w S φ w' S' φ') (h' : Step w' S' φ' w'' S'' φ'') : Step w S φ w'' S'' φ'' := by
  refine ⟨fun b hb => h'.s b (h.s b hb), fun b hb => (h'.keep b (h.s b hb)).trans (h.keep b hb), fun k => ?_, fun k g n sz e hk he cs ty hw => ?_⟩
  · rcases h.phi k with h0 | h0 | h0 | ⟨L, L', h1, h2, h3⟩
    · exact .inl h0
    · rcases h'.phi k with g0 | g0 | g0 | ⟨M, M', g1, g2, g3⟩
      · exact .inl (h0 ▸ g0)
      · exact .inr (.inl (g0.trans h0))
      · exact .inr (.inr (.inl g0))
      · exact .inr (.inr (.inr ⟨M, M', h0 ▸ g1, g2, g3⟩))
    · rcases h'.phi k with g0 | g0 | g0 | ⟨M, M', g1, g2, g3⟩
      · rw [h0] at g0; cases g0
      · exact .inr (.inr (.inl (g0.trans h0)))
      · exact .inr (.inr (.inl g0))
      · rw [h0] at g1; cases g1
    · rcases h'.phi k with g0 | g0 | g0 | ⟨M, M', g1, g2, g3⟩
      · rw [h2] at g0; cases g0
      · exact .inr (.inr (.inr ⟨L, L', h1, g0.trans h2, h3⟩))
      · exact .inr (.inr (.inl g0))
      · rw [h2] at g1; cases g1; exact .inr (.inr (.inr ⟨L, M', h1, g2, by omega⟩))
  · have hmid : φ' k = φ k := by
      rcases h.phi k with h0 | h0 | h0 | ⟨L, L', h1, h2, h3⟩
      · rw [h0] at hk; cases hk
      · exact h0
      · exfalso
        rcases h'.phi k with g0 | g0 | g0 | ⟨M, M', g1, g2, g3⟩
        · rw [h0] at g0; cases g0
        · rw [he, h0, hk] at g0; cases g0
        · rw [he, hk] at g0; cases g0
        · rw [h0] at g1; cases g1
      · exfalso
        rw [hk] at h1; cases h1
        rcases h'.phi k with g0 | g0 | g0 | ⟨M, M', g1, g2, g3⟩
        · rw [h2] at g0; cases g0
        · rw [he, h2, hk] at g0; cases g0; simp at h3
        · rw [he, hk] at g0; cases g0
        · rw [h2] at g1; cases g1; rw [he, hk] at g2; cases g2; simp at h3 g3; omega
    obtain ⟨cs', e1, e2⟩ := h.shape k g n sz e hk hmid cs ty hw
    obtain ⟨cs'', e3, e4⟩ := h'.shape k g n sz e (hmid.trans hk) (he.trans hmid.symm) cs' ty e1
    exact ⟨cs'', e3, e4.trans e2⟩
end

/-- Abstract blocks: a variable's cells; a row of elements. -/
inductive Blk where
  | var (cells : List AV)
  | row (xs : List (List AV)) (sz : Nat) (e : TypeId)
abbrev AHeap := List (Option Blk)
def Blk.n : Blk → Nat | .var _ => 0 | .row xs _ _ => xs.length
def Blk.sz : Blk → Nat | .var _ => 0 | .row _ sz _ => sz
def Blk.e : Blk → TypeId | .var _ => 0 | .row _ _ e => e
def Blk.cells : Blk → List AV | .var cs => cs | .row xs _ _ => xs.flatten
def Blk.even : Blk → Prop | .var _ => True | .row xs sz _ => ∀ e ∈ xs, e.length = sz
/-- How many cells of type ty the block has. -/
def Blk.full : Blk → Nat → TypeId → Prop | .var cs, m, _ => m = cs.length | .row xs sz e, m, ty => ty = e ∧ ∃ cap, xs.length ≤ cap ∧ m = cap * sz
def Blk.loc (B : Blk) (g : Option Nat) : Loc := ⟨g, B.n, B.sz, B.e⟩

/-- Where block B lies. -/
def BlkAt (w : World) (S : Nat → Prop) (φ : Phi) (B : Blk) : Option Nat → Prop
  | none => ∃ sz e, B = .row [] sz e
  | some g => ¬ S g ∧ ∃ cs ty, w.heap[g]? = some (.cells cs ty (0, 0)) ∧ B.cells.length ≤ cs.size ∧ B.full cs.size ty ∧ ∀ j x, B.cells[j]? = some x → Rep w S φ (cs.getD j Go.undef) x

/-- The live blocks of a heap lie where they should. -/
def HLive (w : World) (S : Nat → Prop) (φ : Phi) (h : AHeap) : Prop := ∀ (k : Nat) (B : Blk), h[k]? = some (some B) → B.even ∧ ∃ g, φ k = some (some (B.loc g)) ∧ BlkAt w S φ B g

structure HRel (w : World) (S : Nat → Prop) (φ : Phi) (h : AHeap) : Prop where
  dom : ∀ k, h.length ≤ k → φ k = none
  dead : ∀ k, h[k]? = some none → φ k = none ∨ φ k = some none
  live : HLive w S φ h
  inj : ∀ k k' g L L', φ k = some (some L) → φ k' = some (some L') → L.g = some g → L'.g = some g → k = k'
  bound : ∀ b, S b → b < w.heap.size

/-- What a piece of a run does to the world. -/
structure Ext (w : World) (S : Nat → Prop) (φ : Phi) (w' : World) (S' : Nat → Prop) (φ' : Phi) : Prop where
  step : Step w S φ w' S' φ'
  os : w'.os = w.os
  tape : w'.tape = w.tape
  output : w'.output = w.output
  size : w.heap.size ≤ w'.heap.size
  rest : ∀ b, b < w.heap.size → (∀ k L, φ k = some (some L) → L.g ≠ some b) → w'.heap[b]? = w.heap[b]?
  snew : ∀ b, S' b → S b ∨ w.heap.size ≤ b ∨ ∃ k L, φ k = some (some L) ∧ L.g = some b
  loc : ∀ k g L, φ' k = some (some L) → L.g = some g → w.heap.size ≤ g ∨ ∃ k' L', φ k' = some (some L') ∧ L'.g = some g

section
variable {w w' w'' : World} {S S' S'' : Nat → Prop} {φ φ' φ'' : Phi}
theorem Ext.refl (w : World) (S : Nat → Prop) (φ : Phi) : Ext w S φ w S φ :=
  ⟨.refl _ _ _, rfl, rfl, rfl, Nat.le_refl _, fun _ _ _ => rfl, fun _ h => .inl h, fun k g L h hg => .inr ⟨k, L, h, hg⟩⟩

theorem Ext.trans (h : Ext w S φ w' S' φ') (h' : Ext w' S' φ' w'' S'' φ'') : Ext w S φ w'' S'' φ'' := by
  refine ⟨h.step.trans h'.step, h'.os.trans h.os, h'.tape.trans h.tape, h'.output.trans h.output, Nat.le_trans h.size h'.size, fun b hb hno => ?_, fun b hb => ?_, fun k g L hk hg => ?_⟩
  · rw [h'.rest b (Nat.lt_of_lt_of_le hb h.size) (fun k L hk hg => ?_), h.rest b hb hno]
    rcases h.loc k b L hk hg with h1 | ⟨k', L', h1, h2⟩
    · omega
    · exact hno _ _ h1 h2
  · rcases h'.snew b hb with h1 | h1 | ⟨k, L, h1, hg⟩
    · exact h.snew b h1
    · exact .inr (.inl (Nat.le_trans h.size h1))
    · rcases h.loc k b L h1 hg with h2 | h2
      · exact .inr (.inl h2)
      · exact .inr (.inr h2)
  · rcases h'.loc k g L hk hg with h1 | ⟨k', L', h1, h2⟩
    · exact .inl (Nat.le_trans h.size h1)
    · exact h.loc _ _ _ h1 h2

theorem Ext.below (h : Ext w S Phi.nil w' S' φ') : Below w.heap.size w w' :=
  ⟨h.os, h.tape, h.output, h.size, fun k hk => h.rest k hk (fun _ _ h => by simp [Phi.nil] at h)⟩
end

/-! ### values whose blocks are below a number -/
mutual
def AV.under (N : Nat) : AV → Bool
  | .own k _ | .ptr k _ | .rptr k _ _ _ | .win k _ _ _ => decide (k < N)
  | .fn _ fs cs => AV.underL N fs && AV.underL N cs
  | .iface _ x => AV.under N x
  | .agg cs => AV.underL N cs
  | .tuple cs => AV.underL N cs
  | _ => true
def AV.underL (N : Nat) : List AV → Bool
  | [] => true
  | x :: r => AV.under N x && AV.underL N r
end

theorem AV.underL_get {N : Nat} : ∀ {cs : List AV}, AV.underL N cs = true → ∀ (j : Nat) (x : AV), cs[j]? = some x → AV.under N x = true
  | [], _, j, x, h => by simp at h
  | c :: r, hb, 0, x, h => by simp [AV.underL] at hb; simp at h; rw [← h]; exact hb.1
  | c :: r, hb, j + 1, x, h => by simp [AV.underL] at hb; simp at h; exact AV.underL_get hb.2 j x h

theorem Rep.restrict {w : World} {S : Nat → Prop} {φ : Phi} {v : Value} {x : AV} {N : Nat} (h : Rep w S φ v x) :
    ∀ {φ' : Phi}, AV.under N x = true → (∀ k, k < N → φ' k = φ k) → Rep w S φ' v x := by
  induction h with
  | any => intros; exact .any
  | undef => intros; exact .undef
  | bool b => intros; exact .bool b
  | int k n => intros; exact .int k n
  | str s => intros; exact .str s
  | nilsl => intros; exact .nilsl
  | nil => intros; exact .nil
  | list u hS hlen hcap hsz hc hr ih => intros; exact .list u hS hlen hcap hsz hc hr
  | @own φ v k n hk hle hv h1' => intro φ' hb he; simp [AV.under] at hb; have e := he k hb; exact .own (by rw [e]; exact hk) (fun L hL => hle L (e ▸ hL)) (fun L hL hn => hv L (e ▸ hL) hn) h1'
  | @ptr φ v k off hk hv => intro φ' hb he; simp [AV.under] at hb; have e := he k hb; exact .ptr (by rw [e]; exact hk) (fun L hL hn => hv L (e ▸ hL) hn)
  | @rptr φ v k n i off hk hle hv => intro φ' hb he; simp [AV.under] at hb; have e := he k hb; exact .rptr (by rw [e]; exact hk) (fun L hL => hle L (e ▸ hL)) (fun L hL hn => hv L (e ▸ hL) hn)
  | @win φ v k off len cap hk hv => intro φ' hb he; simp [AV.under] at hb; have e := he k hb; exact .win (by rw [e]; exact hk) (fun L hL hn => hv L (e ▸ hL) hn)
  | nilptr => intros; exact .nilptr
  | fptr u hS hc hr ih => intros; exact .fptr u hS hc hr
  | fn h1 h2 hf hc ih1 ih2 =>
    intro φ' hb he
    simp [AV.under] at hb
    exact .fn h1 h2 (fun j x hj => ih1 j x hj (AV.underL_get hb.1 j x hj) he) (fun j x hj => ih2 j x hj (AV.underL_get hb.2 j x hj) he)
  | nilfn => intros; exact .nilfn
  | iface t h ih => intro φ' hb he; simp [AV.under] at hb; exact .iface t (ih hb he)
  | nilIface => intros; exact .nilIface
  | agg hl h ih => intro φ' hb he; simp [AV.under] at hb; exact .agg hl (fun j x hj => ih j x hj (AV.underL_get hb j x hj) he)
  | tuple hl h ih => intro φ' hb he; simp [AV.under] at hb; exact .tuple hl (fun j x hj => ih j x hj (AV.underL_get hb j x hj) he)

end Go.Proofs.Ytpckfpahmnhfcaa.G
