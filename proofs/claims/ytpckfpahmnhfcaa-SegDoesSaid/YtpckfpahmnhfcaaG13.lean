/- The ghost machine: a contract that is proved in a small heap holds in every heap (frame, with blocks numbered anew). -/
import Derived.Test.YtpckfpahmnhfcaaG11
namespace Go.Proofs.Ytpckfpahmnhfcaa.G
open Go Go.RowKit
set_option linter.unusedVariables false
set_option linter.unusedSimpArgs false

mutual
def AV.ren (r : Nat → Nat) : AV → AV
  | .own k n => .own (r k) n
  | .ptr k off => .ptr (r k) off
  | .rptr k n i off => .rptr (r k) n i off
  | .win k off len cap => .win (r k) off len cap
  | .fn f fs cs => .fn f (AV.renL r fs) (AV.renL r cs)
  | .iface t x => .iface t (AV.ren r x)
  | .agg cs => .agg (AV.renL r cs)
  | .tuple cs => .tuple (AV.renL r cs)
  | .any => .any
  | .undef => .undef
  | .bool b => .bool b
  | .int k n => .int k n
  | .str s => .str s
  | .nilsl => .nilsl
  | .list xs => .list xs
  | .nilptr => .nilptr
  | .fptr cs => .fptr cs
  | .nilfn => .nilfn
  | .nilIface => .nilIface
def AV.renL (r : Nat → Nat) : List AV → List AV
  | [] => []
  | x :: xs => AV.ren r x :: AV.renL r xs
end

theorem renL_length (r : Nat → Nat) : ∀ xs : List AV, (AV.renL r xs).length = xs.length
  | [] => rfl
  | x :: xs => by simp [AV.renL, renL_length r xs]
theorem renL_get (r : Nat → Nat) : ∀ (xs : List AV) (j : Nat), (AV.renL r xs)[j]? = (xs[j]?).map (AV.ren r)
  | [], j => by simp [AV.renL]
  | x :: xs, 0 => by simp [AV.renL]
  | x :: xs, j + 1 => by simp [AV.renL, renL_get r xs j]

theorem Rep.ren {w : World} {S : Nat → Prop} {φ : Phi} {v : Value} {x : AV} {N : Nat} (r : Nat → Nat) (h : Rep w S φ v x) :
    ∀ {φ' : Phi}, AV.under N x = true → (∀ k, k < N → φ' (r k) = φ k) → Rep w S φ' v (x.ren r) := by
  induction h with
  | any => intros; exact .any
  | undef => intros; exact .undef
  | bool b => intros; exact .bool b
  | int k n => intros; exact .int k n
  | str s => intros; exact .str s
  | nilsl => intros; exact .nilsl
  | nil => intros; exact .nil
  | list u hS hlen hcap hsz hc hr ih => intros; exact .list u hS hlen hcap hsz hc hr
  | @own φ v k n hk hle hv h1' => intro φ' hb he; simp [AV.under] at hb; have e := he k hb; exact .own (by rw [e]; exact hk) (fun L hL => hle L (e ▸ hL)) (fun L hL hn => hv L (e ▸ hL) hn) h1'
  | @ptr φ v k off hk hv => intro φ' hb he; simp [AV.under] at hb; have e := he k hb; exact .ptr (by rw [e]; exact hk) (fun L hL hn => hv L (e ▸ hL) hn)
  | @rptr φ v k n i off hk hle hv => intro φ' hb he; simp [AV.under] at hb; have e := he k hb; exact .rptr (by rw [e]; exact hk) (fun L hL => hle L (e ▸ hL)) (fun L hL hn => hv L (e ▸ hL) hn)
  | @win φ v k off len cap hk hv => intro φ' hb he; simp [AV.under] at hb; have e := he k hb; exact .win (by rw [e]; exact hk) (fun L hL hn => hv L (e ▸ hL) hn)
  | nilptr => intros; exact .nilptr
  | fptr u hS hc hr ih => intros; exact .fptr u hS hc hr
  | fn h1 h2 hf hc ih1 ih2 =>
    intro φ' hb he
    simp [AV.under] at hb
    refine .fn (by rw [renL_length]; exact h1) (by rw [renL_length]; exact h2) (fun j x hj => ?_) (fun j x hj => ?_)
    · rw [renL_get, Option.map_eq_some_iff] at hj
      obtain ⟨y, hy, rfl⟩ := hj
      exact ih1 j y hy (AV.underL_get hb.1 j y hy) he
    · rw [renL_get, Option.map_eq_some_iff] at hj
      obtain ⟨y, hy, rfl⟩ := hj
      exact ih2 j y hy (AV.underL_get hb.2 j y hy) he
  | nilfn => intros; exact .nilfn
  | iface t h ih => intro φ' hb he; simp [AV.under] at hb; exact .iface t (ih hb he)
  | nilIface => intros; exact .nilIface
  | agg hl h ih =>
    intro φ' hb he
    simp [AV.under] at hb
    refine .agg (by rw [renL_length]; exact hl) fun j x hj => ?_
    rw [renL_get, Option.map_eq_some_iff] at hj
    obtain ⟨y, hy, rfl⟩ := hj
    exact ih j y hy (AV.underL_get hb j y hy) he
  | tuple hl h ih =>
    intro φ' hb he
    simp [AV.under] at hb
    refine .tuple (by rw [renL_length]; exact hl) fun j x hj => ?_
    rw [renL_get, Option.map_eq_some_iff] at hj
    obtain ⟨y, hy, rfl⟩ := hj
    exact ih j y hy (AV.underL_get hb j y hy) he

section
variable {w : World} {S : Nat → Prop} {φ φ' : Phi} {N : Nat} (r : Nat → Nat) (he : ∀ k, k < N → φ' k = φ (r k))
mutual
theorem ren_down : ∀ (x : AV) (v : Value), Rep w S φ v (x.ren r) → AV.under N x = true → (∀ k, k < N → φ' k = φ (r k)) → Rep w S φ' v x
  | .own k n, v, h, hb, he => by
    simp only [AV.ren] at h; simp [AV.under] at hb
    cases h with
    | own hk hle hv h1' => exact .own (by rw [he k hb]; exact hk) (fun L hL => hle L (he k hb ▸ hL)) (fun L hL hn => hv L (he k hb ▸ hL) hn) h1'
  | .ptr k off, v, h, hb, he => by
    simp only [AV.ren] at h; simp [AV.under] at hb
    cases h with
    | ptr hk hv => exact .ptr (by rw [he k hb]; exact hk) (fun L hL hn => hv L (he k hb ▸ hL) hn)
  | .rptr k n i off, v, h, hb, he => by
    simp only [AV.ren] at h; simp [AV.under] at hb
    cases h with
    | rptr hk hle hv => exact .rptr (by rw [he k hb]; exact hk) (fun L hL => hle L (he k hb ▸ hL)) (fun L hL hn => hv L (he k hb ▸ hL) hn)
  | .win k off len cap, v, h, hb, he => by
    simp only [AV.ren] at h; simp [AV.under] at hb
    cases h with
    | win hk hv => exact .win (by rw [he k hb]; exact hk) (fun L hL hn => hv L (he k hb ▸ hL) hn)
  | .fn f fs cs, v, h, hb, he => by
    simp only [AV.ren] at h; simp [AV.under] at hb
    cases h with
    | fn h1 h2 hf hc => exact .fn (by rw [h1, renL_length]) (by rw [h2, renL_length]) (fun j x hj => renL_down fs _ hf hb.1 he j x hj) (fun j x hj => renL_down cs _ hc hb.2 he j x hj)
  | .iface t x, v, h, hb, he => by
    simp only [AV.ren] at h; simp [AV.under] at hb
    cases h with
    | iface _ h => exact .iface t (ren_down x _ h hb he)
  | .agg cs, v, h, hb, he => by
    simp only [AV.ren] at h; simp [AV.under] at hb
    cases h with
    | agg hl hc => exact .agg (by rw [hl, renL_length]) (fun j x hj => renL_down cs _ hc hb he j x hj)
  | .tuple cs, v, h, hb, he => by
    simp only [AV.ren] at h; simp [AV.under] at hb
    cases h with
    | tuple hl hc => exact .tuple (by rw [hl, renL_length]) (fun j x hj => renL_down cs _ hc hb he j x hj)
  | .any, v, h, hb, he => .any
  | .undef, v, h, hb, he => by simp only [AV.ren] at h; cases h; exact .undef
  | .bool b, v, h, hb, he => by simp only [AV.ren] at h; cases h; exact .bool b
  | .int k n, v, h, hb, he => by simp only [AV.ren] at h; cases h; exact .int k n
  | .str s, v, h, hb, he => by simp only [AV.ren] at h; cases h; exact .str s
  | .nilsl, v, h, hb, he => by simp only [AV.ren] at h; cases h; exact .nilsl
  | .list xs, v, h, hb, he => by
    simp only [AV.ren] at h
    exact h.restrict (N := 0) rfl (fun k hk => by omega)
  | .nilptr, v, h, hb, he => by simp only [AV.ren] at h; cases h; exact .nilptr
  | .fptr cs, v, h, hb, he => by simp only [AV.ren] at h; exact h.restrict (N := 0) rfl (fun k hk => by omega)
  | .nilfn, v, h, hb, he => by simp only [AV.ren] at h; cases h; exact .nilfn
  | .nilIface, v, h, hb, he => by simp only [AV.ren] at h; cases h; exact .nilIface
theorem renL_down : ∀ (xs : List AV) (u : Nat → Value), (∀ (j : Nat) (x : AV), (AV.renL r xs)[j]? = some x → Rep w S φ (u j) x) → AV.underL N xs = true → (∀ k, k < N → φ' k = φ (r k)) → ∀ (j : Nat) (x : AV), xs[j]? = some x → Rep w S φ' (u j) x
  | [], u, h, hb, he, j, x, hj => by simp at hj
  | y :: ys, u, h, hb, he, 0, x, hj => by
    simp only [List.getElem?_cons_zero, Option.some.injEq] at hj
    subst hj
    simp [AV.underL] at hb
    exact ren_down y _ (h 0 _ rfl) hb.1 he
  | y :: ys, u, h, hb, he, j + 1, x, hj => by
    simp [AV.underL] at hb
    exact renL_down ys (fun j => u (j + 1)) (fun j x hj => h (j + 1) x hj) hb.2 he j x (by simpa using hj)
end
end

/-- Blocks laid anew at their places. -/
def updH : List Nat → AHeap → AHeap → AHeap
  | [], _, h => h
  | _ :: _, [], h => h
  | k :: ks, b :: bs, h => updH ks bs (h.set k b)
theorem updH_length : ∀ (rs : List Nat) (bs h : AHeap), (updH rs bs h).length = h.length
  | [], _, h => rfl
  | _ :: _, [], h => rfl
  | k :: ks, b :: bs, h => by simp [updH, updH_length ks bs]
theorem updH_out : ∀ (rs : List Nat) (bs h : AHeap) (k : Nat), k ∉ rs → (updH rs bs h)[k]? = h[k]?
  | [], _, h, k, _ => rfl
  | _ :: _, [], h, k, _ => rfl
  | r :: rs, b :: bs, h, k, hk => by
    simp only [List.mem_cons, not_or] at hk
    rw [updH, updH_out rs bs _ k hk.2, List.getElem?_set_ne (fun e => hk.1 e.symm)]
theorem updH_in : ∀ (rs : List Nat) (bs h : AHeap) (j k : Nat), rs.Nodup → bs.length = rs.length → rs[j]? = some k → k < h.length → (updH rs bs h)[k]? = bs[j]?
  | [], _, h, j, k, _, _, hj, _ => by simp at hj
  | r :: rs, [], h, j, k, _, hl, _, _ => by simp at hl
  | r :: rs, b :: bs, h, 0, k, hn, hl, hj, hk => by
    simp only [List.getElem?_cons_zero, Option.some.injEq] at hj
    subst hj
    rw [updH, updH_out rs bs _ r (List.nodup_cons.1 hn).1]
    simp [hk]
  | r :: rs, b :: bs, h, j + 1, k, hn, hl, hj, hk => by
    rw [updH, updH_in rs bs _ j k (List.nodup_cons.1 hn).2 (by simpa using hl) (by simpa using hj) (by simpa using hk)]
    simp

def flatH (h : AHeap) : Prop := ∀ (k : Nat) (B : Blk), h[k]? = some (some B) → AV.underL 0 B.cells = true
def rnum (rs : List Nat) : Nat → Nat := fun j => rs.getD j 0

theorem acall_frame {P : Program} {f : FuncId} {args : List AV} {h0 h0' h : AHeap} {v : AV} (hc : ACall P f args h0 (.ret v) h0') (rs : List Nat) (hl : h0.length = rs.length) (hl' : h0'.length = rs.length) (nd : rs.Nodup)
    (hget : ∀ (j k : Nat), rs[j]? = some k → h[k]? = h0[j]? ∧ k < h.length) (hf : flatH h0) (hf' : flatH h0') (hua : AV.underL rs.length args = true) (huv : AV.under rs.length v = true) :
    ACall P f (AV.renL (rnum rs) args) h (.ret (v.ren (rnum rs))) (updH rs h0' h) := by
  refine ⟨hc.1, fun w S φ vs hh ht => ?_⟩
  have rn : ∀ j, j < rs.length → rs[j]? = some (rnum rs j) := fun j hj => by simp [rnum, List.getD_eq_getElem?_getD, hj]
  have ninj : ∀ (i j k : Nat), rs[i]? = some k → rs[j]? = some k → i = j := fun i j k h1 h2 => by
    have a := (List.getElem?_eq_some_iff.1 h1).1
    have b := (List.getElem?_eq_some_iff.1 h2).1
    have e1 := (List.getElem?_eq_some_iff.1 h1).2
    have e2 := (List.getElem?_eq_some_iff.1 h2).2
    rcases Nat.lt_trichotomy i j with h | h | h
    · exact absurd (e1.trans e2.symm) (List.pairwise_iff_getElem.1 nd i j a b h)
    · exact h
    · exact absurd (e2.trans e1.symm) (List.pairwise_iff_getElem.1 nd j i b a h)
  obtain ⟨φ0, h0def⟩ : ∃ φ0 : Phi, φ0 = fun j => if j < rs.length then φ (rnum rs j) else none := ⟨_, rfl⟩
  have e0 : ∀ j, j < rs.length → φ0 j = φ (rnum rs j) := fun j hj => by simp [h0def, hj]
  have e0' : ∀ (j : Nat) (L : Loc), φ0 j = some (some L) → j < rs.length ∧ φ (rnum rs j) = some (some L) := fun j L hL => by
    rw [h0def] at hL
    by_cases hj : j < rs.length
    · simp [hj] at hL; exact ⟨hj, hL⟩
    · simp [hj] at hL
  have g0 : ∀ j, j < rs.length → h[rnum rs j]? = h0[j]? := fun j hj => (hget j _ (rn j hj)).1
  have hh0 : HRel w S φ0 h0 := by
    refine ⟨fun k hk => by simp [h0def]; intro h; omega, fun k hk => ?_, fun k B hk => ?_, fun k k' g L L' h1 h2 g1 g2 => ?_, hh.bound⟩
    · have hlt : k < rs.length := by rw [← hl]; exact (List.getElem?_eq_some_iff.1 hk).1
      rw [e0 k hlt]; exact hh.dead _ (by rw [g0 k hlt]; exact hk)
    · have hlt : k < rs.length := by rw [← hl]; exact (List.getElem?_eq_some_iff.1 hk).1
      obtain ⟨p1, g, p2, p3⟩ := hh.live _ B (by rw [g0 k hlt]; exact hk)
      refine ⟨p1, g, by rw [e0 k hlt]; exact p2, ?_⟩
      cases g with
      | none => exact p3
      | some g =>
        obtain ⟨q1, cs, ty, q2, q3, q4, q5⟩ := p3
        exact ⟨q1, cs, ty, q2, q3, q4, fun j x hj => (q5 j x hj).restrict (AV.underL_get (hf k B hk) j x hj) (fun k hk => by omega)⟩
    · obtain ⟨a1, a2⟩ := e0' _ _ h1
      obtain ⟨b1, b2⟩ := e0' _ _ h2
      have := hh.inj _ _ g L L' a2 b2 g1 g2
      exact ninj k k' _ (rn k a1) (this ▸ rn k' b1)
  have ht0 : TRel w S φ0 vs args := ⟨by rw [ht.1, renL_length], fun j x hj => renL_down (rnum rs) args (fun j => vs.getD j Go.undef) ht.2 hua e0 j x hj⟩
  refine (hc.2 w S φ0 vs hh0 ht0).mono fun e w' ⟨S', φ0', k1, k2, k3⟩ => ?_
  obtain ⟨φ', hdef⟩ : ∃ φ' : Phi, φ' = fun k => match rs.idxOf? k with | some j => φ0' j | none => φ k := ⟨_, rfl⟩
  have pin : ∀ j, j < rs.length → φ' (rnum rs j) = φ0' j := fun j hj => by
    have h1 : rs.idxOf? (rnum rs j) = some j := by
      rw [List.idxOf?, List.findIdx?_eq_some_iff_getElem]
      have h2 := rn j hj
      obtain ⟨h3, h4⟩ := List.getElem?_eq_some_iff.1 h2
      refine ⟨h3, by simp [h4], fun i hi => ?_⟩
      simp only [beq_iff_eq, Bool.not_eq_true]
      intro e
      have := ninj i j (rnum rs j) (by rw [List.getElem?_eq_getElem (by omega), e]) h2
      omega
    simp [hdef, h1]
  have pout : ∀ k, k ∉ rs → φ' k = φ k := fun k hk => by
    have : rs.idxOf? k = none := by simp [List.idxOf?_eq_none_iff, hk]
    simp [hdef, this]
  have memj : ∀ k, k ∈ rs → ∃ j, j < rs.length ∧ rnum rs j = k := fun k hk => by
    obtain ⟨j, hj⟩ := List.mem_iff_getElem?.1 hk
    have hlt := (List.getElem?_eq_some_iff.1 hj).1
    have := rn j hlt
    rw [hj] at this; cases this
    exact ⟨j, hlt, rfl⟩
  have lt0 : ∀ (j : Nat) (L : Loc) (g : Nat), φ0' j = some (some L) → L.g = some g → j < rs.length := fun j L g h1 h2 => by
    rcases Nat.lt_or_ge j rs.length with h | h
    · exact h
    · rw [k1.dom j (by omega)] at h1; cases h1
  -- what another block's place is
  have far : ∀ (k : Nat) (L : Loc) (g : Nat), k ∉ rs → φ k = some (some L) → L.g = some g → ∀ j L', φ0 j = some (some L') → L'.g ≠ some g := fun k L g hk h1 h2 j L' h3 h4 => by
    obtain ⟨a1, a2⟩ := e0' _ _ h3
    have := hh.inj k _ g L L' h1 a2 h2 h4
    exact hk (this ▸ List.mem_of_getElem? (rn j a1))
  have kept : ∀ (k : Nat) (L : Loc) (g : Nat), k ∉ rs → φ k = some (some L) → L.g = some g → w'.heap[g]? = w.heap[g]? := fun k L g hk h1 h2 => k2.rest g (hrel_lt hh h1 h2) (far k L g hk h1 h2)
  have hst : Step w S φ w' S' φ' := by
    refine ⟨k2.step.s, k2.step.keep, fun k => ?_, fun k g n sz e hk he cs ty hw => ?_⟩
    · by_cases hm : k ∈ rs
      · obtain ⟨j, hj, rfl⟩ := memj k hm
        have := k2.step.phi j
        rw [e0 j hj] at this
        rw [pin j hj]; exact this
      · exact .inr (.inl (pout k hm))
    · by_cases hm : k ∈ rs
      · obtain ⟨j, hj, rfl⟩ := memj k hm
        exact k2.step.shape j g n sz e (by rw [e0 j hj]; exact hk) (by rw [← pin j hj, he, e0 j hj]) cs ty hw
      · exact ⟨cs, by rw [kept k _ g hm hk rfl]; exact hw, rfl⟩
  refine ⟨S', φ', ⟨fun k hk => ?_, fun k hk => ?_, fun k B hk => ?_, fun k k' g L L' h1 h2 g1 g2 => ?_, k1.bound⟩, ⟨hst, k2.os, k2.tape, k2.output, k2.size, fun b hb hno => k2.rest b hb (fun j L hL => ?_), fun b hb => ?_, fun k g L hk hg => ?_⟩, ?_⟩
  · rw [updH_length] at hk
    have : k ∉ rs := fun hm => by
      obtain ⟨j, hj, rfl⟩ := memj k hm
      have := (hget j _ (rn j hj)).2; omega
    rw [pout k this]; exact hh.dom k hk
  · by_cases hm : k ∈ rs
    · obtain ⟨j, hj, rfl⟩ := memj k hm
      rw [updH_in rs h0' h j _ nd hl' (rn j hj) (hget j _ (rn j hj)).2] at hk
      rw [pin j hj]; exact k1.dead j hk
    · rw [updH_out rs h0' h k hm] at hk
      rw [pout k hm]; exact hh.dead k hk
  · by_cases hm : k ∈ rs
    · obtain ⟨j, hj, rfl⟩ := memj k hm
      rw [updH_in rs h0' h j _ nd hl' (rn j hj) (hget j _ (rn j hj)).2] at hk
      obtain ⟨p1, g, p2, p3⟩ := k1.live j B hk
      refine ⟨p1, g, by rw [pin j hj]; exact p2, ?_⟩
      cases g with
      | none => exact p3
      | some g =>
        obtain ⟨q1, cs, ty, q2, q3, q4, q5⟩ := p3
        exact ⟨q1, cs, ty, q2, q3, q4, fun i x hi => (q5 i x hi).restrict (AV.underL_get (hf' j B hk) i x hi) (fun k hk => by omega)⟩
    · rw [updH_out rs h0' h k hm] at hk
      obtain ⟨p1, g, p2, p3⟩ := hh.live k B hk
      refine ⟨p1, g, by rw [pout k hm]; exact p2, ?_⟩
      cases g with
      | none => exact p3
      | some g =>
        obtain ⟨q1, cs, ty, q2, q3, q4, q5⟩ := p3
        refine ⟨fun hS => ?_, cs, ty, by rw [kept k _ g hm p2 rfl]; exact q2, q3, q4, fun i x hi => (q5 i x hi).step hst⟩
        rcases k2.snew g hS with h1 | h1 | ⟨j, L, h1, h2⟩
        · exact q1 h1
        · have := hrel_lt hh p2 rfl; omega
        · exact far k _ g hm p2 rfl j L h1 h2
  · have cross : ∀ (j k : Nat) (L L' : Loc), φ0' j = some (some L) → L.g = some g → k ∉ rs → φ k = some (some L') → L'.g = some g → False := fun j k L L' a1 a2 a3 a4 a5 => by
      rcases k2.loc j g L a1 a2 with h | ⟨j', L1, h, h'⟩
      · have := hrel_lt hh a4 a5; omega
      · exact far k L' g a3 a4 a5 j' L1 h h'
    by_cases hm : k ∈ rs <;> by_cases hm' : k' ∈ rs
    · obtain ⟨j, hj, rfl⟩ := memj k hm
      obtain ⟨j', hj', rfl⟩ := memj k' hm'
      rw [pin j hj] at h1
      rw [pin j' hj'] at h2
      rw [k1.inj j j' g L L' h1 h2 g1 g2]
    · obtain ⟨j, hj, rfl⟩ := memj k hm
      rw [pin j hj] at h1
      rw [pout k' hm'] at h2
      exact (cross j k' L L' h1 g1 hm' h2 g2).elim
    · obtain ⟨j', hj', rfl⟩ := memj k' hm'
      rw [pin j' hj'] at h2
      rw [pout k hm] at h1
      exact (cross j' k L' L h2 g2 hm h1 g1).elim
    · rw [pout k hm] at h1
      rw [pout k' hm'] at h2
      exact hh.inj k k' g L L' h1 h2 g1 g2
  · exact hno _ L (e0' _ _ hL).2
  · rcases k2.snew b hb with h1 | h1 | ⟨j, L, h1, h2⟩
    · exact .inl h1
    · exact .inr (.inl h1)
    · exact .inr (.inr ⟨_, L, (e0' _ _ h1).2, h2⟩)
  · by_cases hm : k ∈ rs
    · obtain ⟨j, hj, rfl⟩ := memj k hm
      rw [pin j hj] at hk
      rcases k2.loc j g L hk hg with h1 | ⟨j', L', h1, h2⟩
      · exact .inl h1
      · exact .inr ⟨_, L', (e0' _ _ h1).2, h2⟩
    · rw [pout k hm] at hk
      exact .inr ⟨k, L, hk, hg⟩
  · cases e with
    | returned u => exact k3.ren (rnum rs) huv (fun k hk => pin k hk)
    | panicked c => exact k3.elim
    | outgrown => exact k3.elim
end Go.Proofs.Ytpckfpahmnhfcaa.G
