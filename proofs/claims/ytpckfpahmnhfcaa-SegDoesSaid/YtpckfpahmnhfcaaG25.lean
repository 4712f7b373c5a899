/- The ghost machine: more rules: ends within loops of calls walked in place; own slices frozen wherever they are held; make, copy into an own slice. -/
import Derived.Test.YtpckfpahmnhfcaaG24
import Derived.Laws.MakeOwn
namespace Go.Proofs.Ytpckfpahmnhfcaa.G
open Go Go.RowKit
set_option linter.unusedVariables false
set_option linter.unusedSimpArgs false
theorem ib_ret {i : Nat} {Q : AExit → ASt → Prop} {st : ASt} (h : Q .ret st) : AInBlock i Q .ret st := h
theorem at_ret {n : ASt → Prop} {Q : AExit → ASt → Prop} {st : ASt} (h : Q .ret st) : AThen n Q .ret st := h

/-! ### what is told of an own slice, told in another way, wherever it is held -/
mutual
def AV.sub (k : Nat) (y : AV) : AV → AV
  | .own j n => match Nat.beq j k with
    | true => y
    | false => .own j n
  | .agg xs => .agg (AV.subL k y xs)
  | .tuple xs => .tuple (AV.subL k y xs)
  | .fn f fs caps => .fn f fs caps
  | .iface t x => .iface t x
  | .ptr j off => .ptr j off
  | .rptr j n i off => .rptr j n i off
  | .win j off len cap => .win j off len cap
  | .any => .any
  | .undef => .undef
  | .bool b => .bool b
  | .int k n => .int k n
  | .str s => .str s
  | .nilsl => .nilsl
  | .list xs => .list xs
  | .nilptr => .nilptr
  | .fptr cs => .fptr cs
  | .nilfn => .nilfn
  | .nilIface => .nilIface
def AV.subL (k : Nat) (y : AV) : List AV → List AV
  | [] => []
  | x :: xs => AV.sub k y x :: AV.subL k y xs
end
mutual
def AV.owns (k : Nat) : AV → List Nat
  | .own j n => match Nat.beq j k with
    | true => [n]
    | false => []
  | .agg xs => AV.ownsL k xs
  | .tuple xs => AV.ownsL k xs
  | .fn _ _ _ => []
  | .iface _ _ => []
  | .ptr _ _ => []
  | .rptr _ _ _ _ => []
  | .win _ _ _ _ => []
  | .any => []
  | .undef => []
  | .bool _ => []
  | .int _ _ => []
  | .str _ => []
  | .nilsl => []
  | .list _ => []
  | .nilptr => []
  | .fptr _ => []
  | .nilfn => []
  | .nilIface => []
def AV.ownsL (k : Nat) : List AV → List Nat
  | [] => []
  | x :: xs => AV.owns k x ++ AV.ownsL k xs
end
theorem subL_length (k : Nat) (y : AV) : ∀ xs : List AV, (AV.subL k y xs).length = xs.length
  | [] => rfl
  | x :: xs => by simp [AV.subL, subL_length k y xs]
theorem subL_get (k : Nat) (y : AV) : ∀ (xs : List AV) (j : Nat), (AV.subL k y xs)[j]? = (xs[j]?).map (AV.sub k y)
  | [], j => by simp [AV.subL]
  | x :: xs, 0 => by simp [AV.subL]
  | x :: xs, j + 1 => by simp [AV.subL, subL_get k y xs j]
theorem ownsL_get {k N : Nat} : ∀ {xs : List AV}, (∀ n ∈ AV.ownsL k xs, n = N) → ∀ (j : Nat) (x : AV), xs[j]? = some x → ∀ n ∈ AV.owns k x, n = N
  | [], _, j, x, h => by simp at h
  | y :: xs, h, 0, x, hj => by simp at hj; subst hj; intro n hn; exact h n (by simp [AV.ownsL, hn])
  | y :: xs, h, j + 1, x, hj => ownsL_get (xs := xs) (fun n hn => h n (by simp [AV.ownsL, hn])) j x (by simpa using hj)

theorem Rep.sub {w w' : World} {S S' : Nat → Prop} {φ φ' : Phi} {v : Value} {x y : AV} {k N : Nat} (h : Rep w S φ v x) (ho : ∀ n ∈ x.owns k, n = N) (hy : ∀ v, Rep w S φ v (.own k N) → Rep w' S' φ' v y) (hst : Step w S φ w' S' φ') : Rep w' S' φ' v (AV.sub k y x) := by
  have key : ∀ {ψ : Phi} {v : Value} {x : AV}, Rep w S ψ v x → (∀ n ∈ x.owns k, n = N) → ψ = φ → Rep w' S' φ' v (AV.sub k y x) := by
    intro ψ v x h
    induction h with
    | @own ψ v j n hk hle hv h1 =>
      intro ho he
      subst he
      cases hb : Nat.beq j k with
      | true =>
        have := Nat.eq_of_beq_eq_true hb
        subst this
        simp only [AV.owns, hb] at ho
        simp only [AV.sub, hb]
        have : n = N := ho n (by simp)
        subst this
        exact hy v (.own hk hle hv h1)
      | false =>
        simp only [AV.sub, hb]
        exact (Rep.own hk hle hv h1).step hst
    | agg hl h ih =>
      intro ho he
      refine .agg (by rw [subL_length]; exact hl) fun j x hj => ?_
      rw [subL_get, Option.map_eq_some_iff] at hj
      obtain ⟨z, hz, rfl⟩ := hj
      exact ih j z hz (ownsL_get (by unfold AV.owns at ho; exact ho) j z hz) he
    | tuple hl h ih =>
      intro ho he
      refine .tuple (by rw [subL_length]; exact hl) fun j x hj => ?_
      rw [subL_get, Option.map_eq_some_iff] at hj
      obtain ⟨z, hz, rfl⟩ := hj
      exact ih j z hz (ownsL_get (by unfold AV.owns at ho; exact ho) j z hz) he
    | any => intro _ _; exact .any
    | undef => intro _ _; exact .undef
    | bool b => intro _ _; exact .bool b
    | int k n => intro _ _; exact .int k n
    | str s => intro _ _; exact .str s
    | nilsl => intro _ _; exact .nilsl
    | nil => intro _ _; exact .nil
    | list u hS hlen hcap hsz hc hr ih => intro _ he; subst he; exact (Rep.list u hS hlen hcap hsz hc hr).step hst
    | ptr hk' hv => intro _ he; subst he; exact (Rep.ptr hk' hv).step hst
    | rptr hk' hle hv => intro _ he; subst he; exact (Rep.rptr hk' hle hv).step hst
    | win hk' hv => intro _ he; subst he; exact (Rep.win hk' hv).step hst
    | nilptr => intro _ _; exact .nilptr
    | fptr u hS hc hr ih => intro _ he; subst he; exact (Rep.fptr u hS hc hr).step hst
    | fn h1 h2 hf hc ih1 ih2 => intro _ he; subst he; exact (Rep.fn h1 h2 hf hc).step hst
    | nilfn => intro _ _; exact .nilfn
    | iface t h2 ih => intro _ he; subst he; exact (Rep.iface t h2).step hst
    | nilIface => intro _ _; exact .nilIface
  exact key h ho rfl

/-- .. in these variables. -/
def subI (k : Nat) (y : AV) (is : List Nat) : Nat → List AV → List AV
  | _, [] => []
  | i, x :: r => (match is.any (Nat.beq i) with | true => AV.sub k y x | false => x) :: subI k y is (i + 1) r
def ownsI (k : Nat) (is : List Nat) : Nat → List AV → List Nat
  | _, [] => []
  | i, x :: r => match is.any (Nat.beq i) with | true => AV.owns k x ++ ownsI k is (i + 1) r | false => ownsI k is (i + 1) r
def subH (k : Nat) (y : AV) : AHeap → AHeap
  | [] => []
  | some (.var cs) :: r => some (.var (AV.subL k y cs)) :: subH k y r
  | b :: r => b :: subH k y r
def ownsH (k : Nat) : AHeap → List Nat
  | [] => []
  | some (.var cs) :: r => AV.ownsL k cs ++ ownsH k r
  | _ :: r => ownsH k r
def Blk.sub (k : Nat) (y : AV) : Blk → Blk
  | .var cs => .var (AV.subL k y cs)
  | b => b
theorem subH_get (k : Nat) (y : AV) : ∀ (h : AHeap) (j : Nat), (subH k y h)[j]? = (h[j]?).map (Option.map (Blk.sub k y))
  | [], j => by simp [subH]
  | some (.var cs) :: r, 0 => by simp [subH, Blk.sub]
  | some (.var cs) :: r, j + 1 => by simp [subH, subH_get k y r j]
  | some (.row a b c) :: r, 0 => by simp [subH, Blk.sub]
  | some (.row a b c) :: r, j + 1 => by simp [subH, subH_get k y r j]
  | none :: r, 0 => by simp [subH]
  | none :: r, j + 1 => by simp [subH, subH_get k y r j]
theorem subH_length (k : Nat) (y : AV) : ∀ (h : AHeap), (subH k y h).length = h.length
  | [] => rfl
  | some (.var cs) :: r => by simp [subH, subH_length k y r]
  | some (.row a b c) :: r => by simp [subH, subH_length k y r]
  | none :: r => by simp [subH, subH_length k y r]
theorem ownsH_get {k N : Nat} : ∀ {h : AHeap}, (∀ n ∈ ownsH k h, n = N) → ∀ (j : Nat) (cs : List AV), h[j]? = some (some (.var cs)) → ∀ n ∈ AV.ownsL k cs, n = N
  | [], _, j, cs, h => by simp at h
  | some (.var ds) :: r, h, 0, cs, hj => by simp at hj; subst hj; intro n hn; exact h n (by simp [ownsH, hn])
  | some (.var ds) :: r, h, j + 1, cs, hj => ownsH_get (h := r) (fun n hn => h n (by simp [ownsH, hn])) j cs (by simpa using hj)
  | some (.row a b c) :: r, h, 0, cs, hj => by simp at hj
  | some (.row a b c) :: r, h, j + 1, cs, hj => ownsH_get (h := r) (fun n hn => h n (by simp [ownsH, hn])) j cs (by simpa using hj)
  | none :: r, h, 0, cs, hj => by simp at hj
  | none :: r, h, j + 1, cs, hj => ownsH_get (h := r) (fun n hn => h n (by simp [ownsH, hn])) j cs (by simpa using hj)

theorem subI_length (k : Nat) (y : AV) (is : List Nat) : ∀ (xs : List AV) (i : Nat), (subI k y is i xs).length = xs.length
  | [], _ => rfl
  | x :: xs, i => by simp [subI, subI_length k y is xs (i + 1)]
theorem subI_rep {w w' : World} {S S' : Nat → Prop} {φ φ' : Phi} {y : AV} {k N : Nat} {is : List Nat} (hy : ∀ v, Rep w S φ v (.own k N) → Rep w' S' φ' v y) (hst : Step w S φ w' S' φ') :
    ∀ (xs : List AV) (i : Nat), (∀ n ∈ ownsI k is i xs, n = N) → ∀ (u : Nat → Value), (∀ j x, xs[j]? = some x → Rep w S φ (u j) x) → ∀ j x, (subI k y is i xs)[j]? = some x → Rep w' S' φ' (u j) x
  | [], i, _, u, _, j, x, h => by simp [subI] at h
  | z :: xs, i, ho, u, hu, 0, x, h => by
    simp only [subI, List.getElem?_cons_zero, Option.some.injEq] at h
    unfold ownsI at ho
    have h0 := hu 0 z rfl
    split at h
    · rename_i hb
      rw [hb] at ho
      subst h
      exact h0.sub (fun n hn => ho n (by simp [hn])) hy hst
    · subst h; exact h0.step hst
  | z :: xs, i, ho, u, hu, j + 1, x, h => by
    simp only [subI, List.getElem?_cons_succ] at h
    unfold ownsI at ho
    exact subI_rep hy hst xs (i + 1) (fun n hn => ho n (by split <;> simp [hn])) (fun j => u (j + 1)) (fun j x hj => hu (j + 1) x (by simpa using hj)) j x h

theorem hrel_sub {w : World} {S S' : Nat → Prop} {φ φ' : Phi} {h h1 : AHeap} {y : AV} {k N : Nat} (hh : HRel w S φ h) (hr : HRel w S' φ' h1) (hsame : ∀ j B, h1[j]? = some (some B) → h[j]? = some (some B) ∧ φ' j = φ j) (hy : ∀ v, Rep w S φ v (.own k N) → Rep w S' φ' v y) (hst : Step w S φ w S' φ') (ho : ∀ n ∈ ownsH k h1, n = N) : HRel w S' φ' (subH k y h1) := by
  refine ⟨fun j hj => hr.dom j (by rwa [subH_length] at hj), fun j hj => hr.dead j ?_, fun j B hj => ?_, hr.inj, hr.bound⟩
  · rw [subH_get, Option.map_eq_some_iff] at hj
    obtain ⟨o, h2, h3⟩ := hj
    cases o with
    | none => exact h2
    | some B => simp at h3
  · rw [subH_get, Option.map_eq_some_iff] at hj
    obtain ⟨o, h2, h3⟩ := hj
    cases o with
    | none => simp at h3
    | some B0 =>
      simp only [Option.map_some, Option.some.injEq] at h3
      subst h3
      obtain ⟨q0, q1⟩ := hsame j B0 h2
      obtain ⟨e1, g, e2, e3⟩ := hr.live j B0 h2
      obtain ⟨f1, g', f2, f3⟩ := hh.live j B0 q0
      rw [q1, f2] at e2
      have hg : g' = g := by
        simp only [Option.some.injEq, Blk.loc, Loc.mk.injEq] at e2; exact e2.1
      subst hg
      cases B0 with
      | row a b c => exact ⟨e1, g', by rw [q1, f2]; rfl, e3⟩
      | var cs =>
        refine ⟨trivial, g', by rw [q1, f2]; rfl, ?_⟩
        cases g' with
        | none => obtain ⟨_, _, hb⟩ := e3; cases hb
        | some g =>
          obtain ⟨a1, us, ty, a2, a3, a4, a5⟩ := e3
          obtain ⟨_, us', ty', b2, b3, b4, b5⟩ := f3
          rw [a2] at b2; cases b2
          refine ⟨a1, us, ty, a2, ?_, ?_, fun q x hq => ?_⟩
          · show (AV.subL k y cs).length ≤ us.size
            rw [subL_length]; exact a3
          · show us.size = (AV.subL k y cs).length
            rw [subL_length]; exact a4
          · have hq' : (AV.subL k y cs)[q]? = some x := hq
            rw [subL_get, Option.map_eq_some_iff] at hq'
            obtain ⟨z, hz, rfl⟩ := hq'
            exact (b5 q z hz).sub (ownsL_get (ownsH_get ho j cs h2) q z hz) hy hst

theorem rep_mem {N : Nat} {l : List Nat} {m : Nat} (h : l = List.replicate m N) : ∀ n ∈ l, n = N := fun n hn => by subst h; exact (List.mem_replicate.1 hn).2

theorem set_none_get {h : AHeap} {k j : Nat} {B : Blk} (hj : (h.set k none)[j]? = some (some B)) : h[j]? = some (some B) ∧ j ≠ k := by
  rw [List.getElem?_set] at hj
  split at hj
  · split at hj
    · cases hj
    · cases hj
  · rename_i hne; exact ⟨hj, fun e => hne e.symm⟩

/-- An own slice is never written again: it is told as a list wherever it is held. -/
theorem sweak_frz {ts : List AV} {h : AHeap} {ds : List (FuncId × List AV)} (k sz m : Nat) (is : List Nat) {xs : List (List AV)} {e : TypeId} (hk : h[k]? = some (some (.row xs sz e))) (hp : ∀ el ∈ xs, AV.underL 0 el = true)
    (ho : ownsI k is 0 ts ++ ownsH k (h.set k none) = List.replicate m xs.length) : SWeak ⟨ts, h, ds⟩ ⟨subI k (.list xs) is 0 ts, subH k (.list xs) (h.set k none), ds⟩ := fun B S φ a w _ hr => by
  obtain ⟨hev, g, q1, q2⟩ := hr.heap.live k _ hk
  obtain ⟨g1, g2⟩ := hrel_give hr.heap hk q1
  have hall := rep_mem ho
  have hy : ∀ v, Rep w S φ v (.own k xs.length) → Rep w (fun b => S b ∨ g = some b) (fun j => if j = k then some none else φ j) v (.list xs) := fun v hv => by
    cases hv with
    | own hk' hle hv' =>
      have ha := hv' _ q1 rfl
      cases g with
      | none =>
        obtain ⟨_, _, he⟩ := q2
        have : xs = [] := by cases he; rfl
        subst this
        obtain ⟨_, A, rfl⟩ := ha
        exact .nil
      | some g =>
        obtain ⟨cap, cs, rfl, c1, c2, c3⟩ := ha
        obtain ⟨_, cs', ty, h4, h5, h6, h7⟩ := q2
        refine .list (sz := sz) (fun j => cs'.getD j Go.undef) (.inr rfl) rfl c1 hev (fun j x hj => ?_) (fun j x hj => ?_)
        · have hlt : j < cs'.size := Nat.lt_of_lt_of_le (List.getElem?_eq_some_iff.1 hj).1 h5
          simp [World.cell?, h4, hlt]
        · obtain ⟨el, hel, hx⟩ := List.mem_flatten.1 (List.mem_of_getElem? hj)
          obtain ⟨q, hq⟩ := List.mem_iff_getElem?.1 hx
          exact ((h7 j x hj).restrict (φ' := Phi.nil) (AV.underL_get (hp el hel) q x hq) (fun k hk => by omega)).step g2.step.toNil
  refine ⟨_, _, hrel_sub hr.heap g1 (fun j B hj => ?_) hy g2.step (fun n hn => hall n (by simp [hn])), ⟨by rw [subI_length]; exact hr.tmps.1, fun j x hj => ?_⟩, hr.defs.step g2.step, hr.ext.trans g2⟩
  · obtain ⟨a1, a2⟩ := set_none_get hj
    exact ⟨a1, by simp [a2]⟩
  · exact subI_rep hy g2.step ts 0 (fun n hn => hall n (by simp [hn])) (fun j => a.tmps.getD j Go.undef) (fun j x hj => hr.tmps.2 j x hj) j x hj

/-- How long an own slice is, told in another way. -/
theorem sweak_len {ts : List AV} {h : AHeap} {ds : List (FuncId × List AV)} (k m : Nat) (is : List Nat) {n n' : Nat} (hn : n = n')
    (ho : ownsI k is 0 ts ++ ownsH k h = List.replicate m n) : SWeak ⟨ts, h, ds⟩ ⟨subI k (.own k n') is 0 ts, subH k (.own k n') h, ds⟩ := fun B S φ a w _ hr => by
  subst hn
  have hall := rep_mem ho
  refine ⟨S, φ, hrel_sub hr.heap hr.heap (fun j B hj => ⟨hj, rfl⟩) (fun v hv => hv) (.refl _ _ _) (fun n hn => hall n (by simp [hn])), ⟨by rw [subI_length]; exact hr.tmps.1, fun j x hj => ?_⟩, hr.defs, hr.ext⟩
  exact subI_rep (fun v hv => hv) (.refl _ _ _) ts 0 (fun n hn => hall n (by simp [hn])) (fun j => a.tmps.getD j Go.undef) (fun j x hj => hr.tmps.2 j x hj) j x hj

section rules
variable {P : Program} {B : Base} {Q : AExit → ASt → Prop} {ops : Array Oper} {l : List Oper} {c : Code} {ts ts' : List AV} {hp hp' : AHeap} {α : Type} {enc : α → List AV} {L : List α}
theorem sub_kpt {k : Nat} {y : AV} {is ks : List Nat} {hq : AHeap} (s : SWeak ⟨ts, hp, []⟩ ⟨subI k y is 0 ts, hq, []⟩) (he : kpt ks [] 0 (subI k y is 0 ts) = ts') (hh : hq = hp') : SWeak ⟨ts, hp, []⟩ ⟨ts', hp', []⟩ := by
  subst hh
  exact s.trans (sk ks [] he) (Nat.le_refl _)
/-- freeze: block, cells of an element, where it is held (variables; how often), variables that stay. -/
theorem fcv (k sz m : Nat) (is ks : List Nat) (hp' : AHeap) (ts' : List AV) {e : TypeId} (hk : hp[k]? = some (some (.row (List.map enc L) sz e))) (hu : ∀ x, AV.underL 0 (enc x) = true) (ho : ownsI k is 0 ts ++ ownsH k (hp.set k none) = List.replicate m (List.map enc L).length)
    (he : kpt ks [] 0 (subI k (.list (List.map enc L)) is 0 ts) = ts') (hh : subH k (.list (List.map enc L)) (hp.set k none) = hp') (h : AWp P B c Q ⟨ts', hp', []⟩) (hn : B.n ≤ hp'.length := by apply hnl; assumption; rfl) : AWp P B c Q ⟨ts, hp, []⟩ :=
  awp_sweak (sub_kpt (sweak_frz k sz m is hk (all_under hu L) ho) he hh) hn h
theorem fov (k sz m : Nat) (is ks : List Nat) (hp' : AHeap) (ts' : List AV) {e : TypeId} (hk : hp[k]? = some (some (.row (List.map enc L) sz e))) (hu : ∀ x, AV.underL 0 (enc x) = true) (ho : ownsI k is 0 ts ++ ownsH k (hp.set k none) = List.replicate m (List.map enc L).length)
    (he : kpt ks [] 0 (subI k (.list (List.map enc L)) is 0 ts) = ts') (hh : subH k (.list (List.map enc L)) (hp.set k none) = hp') (h : AOps P B ops Q l ⟨ts', hp', []⟩) (hn : B.n ≤ hp'.length := by apply hnl; assumption; rfl) : AOps P B ops Q l ⟨ts, hp, []⟩ :=
  aops_weak (sub_kpt (sweak_frz k sz m is hk (all_under hu L) ho) he hh) hn h
theorem lov (k m : Nat) (is ks : List Nat) (hp' : AHeap) (ts' : List AV) {n n' : Nat} (hnn : n = n') (ho : ownsI k is 0 ts ++ ownsH k hp = List.replicate m n)
    (he : kpt ks [] 0 (subI k (.own k n') is 0 ts) = ts') (hh : subH k (.own k n') hp = hp') (h : AOps P B ops Q l ⟨ts', hp', []⟩) (hn : B.n ≤ hp'.length := by apply hnl; assumption; rfl) : AOps P B ops Q l ⟨ts, hp, []⟩ :=
  aops_weak (sub_kpt (sweak_len k m is hnn ho) he hh) hn h
end rules

/-! ### make -/
def mkL {α : Type} (b : Nat) (z : α) (n : Int) : Option (List α) := if 0 ≤ n ∧ (b : Int) * n ≤ 281474976710656 ∧ n ≤ 9223372036854775807 then some (List.replicate n.toNat z) else none
theorem flat_rep {zs : List AV} : ∀ (n : Nat) (j : Nat) (x : AV), (List.replicate n zs).flatten[j]? = some x → j < n * zs.length ∧ zs[j % zs.length]? = some x
  | 0, j, x, h => by simp at h
  | n + 1, j, x, h => by
    simp only [List.replicate_succ, List.flatten_cons] at h
    rcases Nat.lt_or_ge j zs.length with hlt | hge
    · rw [List.getElem?_append_left hlt] at h
      exact ⟨by rw [Nat.succ_mul]; omega, by rw [Nat.mod_eq_of_lt hlt]; exact h⟩
    · rw [List.getElem?_append_right hge] at h
      obtain ⟨h1, h2⟩ := flat_rep n _ x h
      refine ⟨by rw [Nat.succ_mul]; omega, ?_⟩
      rw [Nat.mod_eq_sub_mod hge]; exact h2
section heads
variable {P : Program} {T : TT} {o : Oper} {ρ : Operand → AV} {hp : AHeap}
theorem head_mslice (hT : TOk P T) {α : Type} {enc : α → List AV} {z : α} {L : List α} {t e : TypeId} {d ed : TD} {lo cp : Operand} {kl kc : IntKind} {n : Int} (k sz : Nat) (hv : mkL ed.bytes z n = some L) (ho : o.op = .makeSlice t lo cp) (hd : T t = some d) (hk : d.kind = .slice e) (hed : T e = some ed)
    (hl : ρ lo = .int kl n) (hc : ρ cp = .int kc n) (hz : enc z = ed.zero) (hs : ed.size = sz) (hl0 : Nat.beq ed.zero.length sz = true) (hs0 : Nat.blt 0 sz = true) : AHead P o ρ hp (.own k (List.map enc L).length) (some (k, .row (List.map enc L) sz e)) := fun w S φ a next Q hlv hb hev hn hkk => by
  subst hs
  obtain ⟨it, ut, h1, h2, h3, _, h5, _⟩ := hT.get hd
  rw [hk] at h5
  rw [kind_slice h5] at h2
  obtain ⟨i, ut', g1, g2, g3, g4, g5, zv, gz, gzo, gzl⟩ := hT.get hed
  obtain ⟨k1, k2, k3⟩ := zeroOk_rep gzo w S φ
  unfold mkL at hv
  split at hv
  · rename_i hcnd
    cases hv
    obtain ⟨c1, c2, c3⟩ := hcnd
    have e1 := hev lo (by simp [ho, Op.operands])
    have e2 := hev cp (by simp [ho, Op.operands])
    rw [hl] at e1
    rw [hc] at e2
    have e1 := rep_int_inv e1
    have e2 := rep_int_inv e2
    have hb4 : i.bytes = ed.bytes := g4
    have hrun := run_make (P := P) w t e i zv h2 g1 gz kl kc n n c1 (Int.le_refl _) (by rw [hb4]; exact c2) c3
    have hzl : ed.zero.length = ed.size := Nat.eq_of_beq_eq_true hl0
    have hzs : zv.cells.size = ed.size := by have := k1; simp at this; omega
    have hmap : List.map enc (List.replicate n.toNat z) = List.replicate n.toNat ed.zero := by rw [List.map_replicate, hz]
    unfold Oper.wp execOp
    simp only [ho, Sem.run_bind, e1, e2, hrun, Result.andThen_ok, Sem.run_pure, Oper.upon_value]
    have hn' := hn _ _ rfl
    have hmz : (madeCells zv.cells (n.toNat * i.size)).size = n.toNat * ed.size := by rw [size_madeCells, g3]
    have hev' : ∀ el ∈ List.map enc (List.replicate n.toNat z), el.length = ed.size := fun el he => by rw [hmap] at he; rw [(List.mem_replicate.1 he).2, hzl]
    have hfl : (List.map enc (List.replicate n.toNat z)).flatten.length = n.toNat * ed.size := by rw [flatten_len hev']; simp
    refine hkk _ _ S _ (below_alloc w _) (fun _ h => h) (fun _ h => .inl h) (bound_alloc hb _) (newRel_alloc hb hn' (.row (List.map enc (List.replicate n.toNat z)) ed.size e) _ e hev' ⟨rfl, n.toNat, by simp, hmz⟩ (by simp only [Blk.cells]; rw [hfl, hmz]; exact Nat.le_refl _) (fun j x hj => ?_))
      (.own (by simp [updPhi]) (fun L hL => by simp only [updPhi, if_true, Option.some.injEq] at hL; subst hL; exact Nat.le_refl _) (fun L hL hn => by
        simp only [updPhi, if_true, Option.some.injEq] at hL; subst hL
        refine ⟨n.toNat, _, ?_, ?_, heap_new _ _, hmz⟩
        · simp only [Blk.loc, Blk.n, List.length_map, List.length_replicate]
        · simp only [Blk.loc, Blk.n, List.length_map, List.length_replicate]; exact Nat.le_refl _) ⟨_, _, _, rfl⟩)
    simp only [Blk.cells, hmap] at hj
    obtain ⟨q1, q2⟩ := flat_rep _ _ _ hj
    have := k3 _ _ q2
    have hpos : 0 < ed.size := Nat.le_of_ble_eq_true hs0
    have hml : j % zv.cells.size < zv.cells.size := Nat.mod_lt _ (by omega)
    have hget : (madeCells zv.cells (n.toNat * i.size)).getD j Go.undef = zv.cells[j % zv.cells.size]! := by
      unfold madeCells
      have : j < n.toNat * i.size := by rw [g3, ← hzl]; exact q1
      simp [Array.getD_eq_getD_getElem?, this]
    rw [hget, getElem!_pos zv.cells (j % zv.cells.size) hml]
    rw [hzl, ← hzs] at this
    simpa [List.getD_eq_getElem?_getD, hml] using this
  · cases hv
end heads

/-! ### copy into an own slice -/
def cpyL {α : Type} (L R : List α) : List α := R.take L.length ++ L.drop R.length
theorem cpyL_length {α : Type} (L R : List α) : (cpyL L R).length = L.length := by unfold cpyL; simp; omega
theorem run_copy_none {P : Program} (w : World) (dT sT ty elem : TypeId) (i : TypeInfo) (A0 A : Option Addr) (dCap n c : Nat) (hu : P.underlying dT = some (.slice elem)) (hs : P.info? elem = some i) :
    (Builtin.copy_ #[dT, sT] ty #[.slice A0 0 dCap, .slice A n c]).run P w = .ok (goInt 0) w := by
  have hl0 : ∀ (x : Addr), (loadCells x 0).run P w = .ok #[] w := fun x => by simpa using run_loadCells_list (P := P) w x [] (by simp)
  have hst : ∀ (x : Addr), (storeCells x []).run P w = .ok () w := fun x => by simp [storeCells]
  have hm : Nat.min n 0 = 0 := Nat.min_zero n
  cases A <;> cases A0 <;> simp [Builtin.copy_, run_underlying hu, Builtin.lenOf, Builtin.firstCells, sizeOf, typeInfo, hs, hl0, hm, hst]
section copy
variable {P : Program} {T : TT} {B : Base} {Q : AExit → ASt → Prop} {st : ASt} {ops : Array Oper} {o : Oper} {rest : List Oper} {ts ts' : List AV} {hp hp' : AHeap} {ds : List (FuncId × List AV)} {α : Type} {enc : α → List AV} {L R : List α}
theorem flat_take {n m : Nat} (h : ∀ x, (enc x).length = n) : (List.map enc (R.take m)).flatten.length = Nat.min R.length m * n ∧ (List.map enc (R.take m)).flatten = (List.map enc R).flatten.take (Nat.min R.length m * n) := by
  have e1 : (List.map enc (R.take m)).flatten.length = Nat.min R.length m * n := by
    rw [flatten_len (sz := n) (fun el he => by obtain ⟨x, _, rfl⟩ := List.mem_map.1 he; exact h x)]
    simp [Nat.min_comm]
  refine ⟨e1, ?_⟩
  have : (List.map enc R).flatten = (List.map enc (R.take m)).flatten ++ (List.map enc (R.drop m)).flatten := by
    rw [← List.flatten_append, ← List.map_append, List.take_append_drop]
  rw [this, ← e1, List.take_left]
theorem aops_copy_own (hT : TOk P T) {t t' e : TypeId} {d ed : TD} {x y : Operand} {k sz : Nat} (hw : awanted ops st o = some true) (ho : o.op = .call ⟨.builtin .copy, #[x, y], #[t, t']⟩) (hd : T t = some d) (hk : d.kind = .slice e) (hed : T e = some ed)
    (hx : st.eval x = .own k (List.map enc L).length) (hb : st.heap[k]? = some (some (.row (List.map enc L) sz e))) (hs : srcOf st.heap (st.eval y) = some (List.map enc R)) (hsz : ed.size = sz) (hen : ∀ x, (enc x).length = sz) (hsc : ∀ x, (enc x).all AV.scal = true)
    (h : AOps P B ops Q rest (({ st with heap := st.heap.set k (some (.row (List.map enc (cpyL L R)) sz e)) } : ASt).put o.dst (.int .i64 (Nat.min R.length L.length : Nat)))) : AOps P B ops Q (o :: rest) st :=
  aops_step hw fun K hK S φ a w hr => by
    obtain ⟨it, ut, h1, h2, h3, _, h5, _⟩ := hT.get hd
    rw [hk] at h5
    rw [kind_slice h5] at h2
    obtain ⟨i, ut', g1, g2, g3, g4, g5, z, gz, gzo, gzl⟩ := hT.get hed
    have e1 := rel_eval (st := st) hr.tmps x
    have e2 := rel_eval (st := st) hr.tmps y
    rw [hx] at e1
    obtain ⟨A, c, hyv, _, hyc⟩ := src_rep hr.heap.live e2 hs
    obtain ⟨hev, g, q1, q2⟩ := hr.heap.live k _ hb
    have hevL : ∀ (M : List α), ∀ el ∈ List.map enc M, el.length = sz := fun M el he => by obtain ⟨x, _, rfl⟩ := List.mem_map.1 he; exact hen x
    obtain ⟨t1, t2⟩ := flat_take (R := R) (m := L.length) hen
    generalize hxv : a.eval x = v at e1
    cases e1 with
    | own hk' hle hv =>
      have ha := hv _ q1 rfl
      cases g with
      | none =>
        obtain ⟨_, _, he⟩ := q2
        have hL : L = [] := by
          cases he' : L with
          | nil => rfl
          | cons p q => rw [he'] at he; simp at he
        subst hL
        obtain ⟨_, A0, rfl⟩ := ha
        have hrun := run_copy_none (P := P) w t t' o.type e i A0 A 0 (List.map enc R).length c h2 g1
        unfold Oper.wp execOp
        simp only [ho, resolve, invoke, builtin, Sem.run_bind, Sem.run_pure, Result.andThen_ok, List.map_toArray, List.map_cons, List.map_nil, hxv, hyv, hrun, Oper.upon_value]
        have hc0 : cpyL ([] : List α) R = [] := by simp [cpyL]
        rw [hc0, list_set_same _ _ _ hb, show Nat.min R.length ([] : List α).length = 0 from Nat.min_zero _] at h
        exact ⟨S, φ, _, rel_put (st := st) hr o.dst (.int .i64 _), hK _ h⟩
      | some g =>
        obtain ⟨cap, cs0, rfl, c1, c2, c3⟩ := ha
        obtain ⟨hnS, cur, ty, h4, h5', h6, h7⟩ := q2
        simp only [Blk.loc, Blk.n, Blk.e, Blk.sz] at c1 c2 c3 hxv
        rw [h4] at c2; cases c2
        have hfl : (List.map enc L).flatten.length = L.length * sz := by rw [flatten_len (hevL L)]; simp
        have h5'' : L.length * sz ≤ cs0.size := by rw [← hfl]; exact h5'
        have hmle : Nat.min R.length L.length * sz ≤ L.length * sz := Nat.mul_le_mul_right _ (Nat.min_le_right _ _)
        obtain ⟨vs, l1, l2, l3, l4⟩ : ∃ vs : List Value, vs.length = (List.map enc (R.take L.length)).flatten.length ∧ ((List.map enc R).length ≠ 0 → ∃ a, A = some a ∧ ∀ (j : Nat) (u : Value), vs[j]? = some u → w.cell? (a.add j) = some u) ∧ (∀ u ∈ vs, u.oneCell' = true) ∧ ∀ (j : Nat) (x : AV), (List.map enc (R.take L.length)).flatten[j]? = some x → Rep w S φ (vs.getD j Go.undef) x := by
          by_cases hm : List.map enc R = []
          · have hR : R = [] := by simpa using hm
            subst hR
            exact ⟨[], by simp, fun h => absurd rfl h, by simp, fun j x h => by simp at h⟩
          · obtain ⟨b, off', rfl, hcell⟩ := hyc hm
            obtain ⟨vs, l1, l2, l3, l4⟩ := src_vals (cells := (List.map enc (R.take L.length)).flatten) (b := b) (off := off') hr.heap.live (fun j x hj => hcell j x (by rw [t2, List.getElem?_take] at hj; split at hj <;> first | exact hj | cases hj)) (fun x hx => by
              obtain ⟨el, hel, hxe⟩ := List.mem_flatten.1 hx
              obtain ⟨q, _, rfl⟩ := List.mem_map.1 hel
              have := List.all_eq_true.1 (hsc q) x hxe
              cases x <;> first | rfl | exact this | (simp [AV.scal] at this))
            exact ⟨vs, l1, fun _ => ⟨_, rfl, l2⟩, l3, l4⟩
        have hrun := run_copy_rows (P := P) w t t' o.type e i.size g 0 (List.map enc L).length cap A (List.map enc R).length c cs0 e vs h2 (by rw [g1]; rfl) h4 (by rw [l1, t1, g3, hsz]; simp only [List.length_map]) l2 (by rw [l1, t1]; omega) l3
        have hcells : (List.map enc (cpyL L R)).flatten = splice 0 (List.map enc (R.take L.length)).flatten (List.map enc L).flatten := by
          have hdr : (List.map enc L).flatten.drop (List.map enc (R.take L.length)).flatten.length = (List.map enc (L.drop R.length)).flatten := by
            rcases Nat.le_total R.length L.length with hrl | hrl
            · rw [t1, show Nat.min R.length L.length = R.length from Nat.min_eq_left hrl]
              have : (List.map enc L).flatten = (List.map enc (L.take R.length)).flatten ++ (List.map enc (L.drop R.length)).flatten := by
                rw [← List.flatten_append, ← List.map_append, List.take_append_drop]
              have h3 : (List.map enc (L.take R.length)).flatten.length = R.length * sz := by rw [flatten_len (hevL _)]; simp [Nat.min_eq_left hrl]
              rw [this, ← h3, List.drop_left]
            · rw [t1, show Nat.min R.length L.length = L.length from Nat.min_eq_right hrl, ← hfl, List.drop_length, List.drop_eq_nil_of_le hrl]; rfl
          unfold splice
          rw [Nat.zero_add, hdr, List.take_zero, List.nil_append, cpyL, List.map_append, List.flatten_append]
        obtain ⟨p1, p2⟩ := hrel_set hr.heap (B' := .row (List.map enc (cpyL L R)) sz e) (cs' := (cs0.toList.take 0 ++ vs ++ cs0.toList.drop (0 + vs.length)).toArray) hb q1 (by simp [Blk.loc, Blk.n, Blk.sz, Blk.e, cpyL_length]) h4 (by simp; omega) (hevL _)
          (by obtain ⟨f1, cap', f2, f3⟩ := h6
              refine ⟨f1, cap', by simpa [cpyL_length] using f2, ?_⟩
              rw [← f3]; simp; omega)
          (by simp only [Blk.cells]; rw [flatten_len (hevL _)]; simp [cpyL_length]; omega)
          (by
            simp only [Blk.cells, hcells]
            have := splice_rep (w := w) (S := S) (φ := φ) (cur := cs0) (new := vs.toArray) (cs := (List.map enc L).flatten) (xs := (List.map enc (R.take L.length)).flatten) (off := 0) h7 (fun j x hj => by
              have := l4 j x hj
              simpa [List.getD_eq_getElem?_getD] using this) (by simpa using l1) (by rw [t1, hfl]; omega) h5'
            simpa using this)
        unfold Oper.wp execOp
        simp only [ho, resolve, invoke, builtin, Sem.run_bind, Sem.run_pure, Result.andThen_ok, List.map_toArray, List.map_cons, List.map_nil, hxv, hyv, hrun, Oper.upon_value]
        refine ⟨S, _, _, rel_put (rel_heap hr p1 p2) o.dst ?_, hK _ h⟩
        simp only [List.length_map]
        exact .int .i64 _
theorem d_copy_ownm (hT : TOk P T) {t t' e : TypeId} {d ed : TD} {x y : Operand} {k sz : Nat} (hw : awantedL ops ts o = some true) (ho : o.op = .call ⟨.builtin .copy, #[x, y], #[t, t']⟩) (hd : T t = some d) (hk : d.kind = .slice e) (hed : T e = some ed)
    (hx : evalL ts x = .own k (List.map enc L).length) (hb : hp[k]? = some (some (.row (List.map enc L) sz e))) (hs : srcOf hp (evalL ts y) = some (List.map enc R)) (hsz : ed.size = sz) (hen : ∀ x, (enc x).length = sz) (hsc : ∀ x, (enc x).all AV.scal = true)
    (hh : hp.set k (some (.row (List.map enc (cpyL L R)) sz e)) = hp') (ht : putL ts o.dst (.int .i64 (Nat.min R.length L.length : Nat)) = ts') (h : AOps P B ops Q rest ⟨ts', hp', ds⟩) : AOps P B ops Q (o :: rest) ⟨ts, hp, ds⟩ := by
  refine aops_copy_own (st := ⟨ts, hp, ds⟩) hT hw ho hd hk hed hx hb hs hsz hen hsc ?_
  subst hh; subst ht
  cases hd : o.dst <;> (simp only [putL, hd] at h; simp only [ASt.put]; exact h)
end copy
end Go.Proofs.Ytpckfpahmnhfcaa.G
