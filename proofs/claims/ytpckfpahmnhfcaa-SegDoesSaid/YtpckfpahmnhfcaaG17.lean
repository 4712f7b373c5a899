/- The ghost machine: regions that draw their order, in which one operation stores: it may run at any time, for nothing else in the head looks at what it writes. -/
import Derived.Test.YtpckfpahmnhfcaaG16
namespace Go.Proofs.Ytpckfpahmnhfcaa.G
open Go Go.RowKit
set_option linter.unusedVariables false
set_option linter.unusedSimpArgs false

/-- A store into block k, whatever else there is. -/
def AStor (P : Program) (o : Oper) (ρ : Operand → AV) (hp : AHeap) (k : Nat) (Bk : Blk) : Prop :=
  ∀ w S φ (a : Act) (next : Act → World → Prop) (Q : Exit → Act → World → Prop) (H : AHeap), HRel w S φ H → (∀ j, j < hp.length → H[j]? = hp[j]?) → (∀ y ∈ o.op.operands, Rep w S φ (a.eval y) (ρ y)) →
    (∀ w', HRel w' S φ (H.set k (some Bk)) → Ext w S φ w' S φ → next (a.put o.dst Go.undef) w') → o.wp P a w next Q
def dumb (o : Oper) : Oper := { o with op := .move (.const (.bool false)), guard := none }
theorem head_dumb {P : Program} {o : Oper} {ρ : Operand → AV} {hp : AHeap} : AHead P (dumb o) ρ hp (.bool false) none := head_ro fun w S φ a hl hev => ⟨.bool false, by simp [execOp, dumb, Act.eval], .bool false⟩

theorem awp_region_late {P : Program} {B : Base} {Q : AExit → ASt → Prop} {st : ASt} {id : Nat} {l : List Oper} (n s k : Nat) {Bk : Blk} {os : Oper} (hm : P.follows .mixedOrders = true) (hchk : drawOk l n = true) (hos : l[s]? = some os) (hsn : s < n) (hsd : os.dst = none) (hkl : k < st.heap.length) {R : List HRes} {te : List AV} {x0 : AV} (hR : R[s]? = some (x0, none))
    (H : Heads P l.toArray (st.heap.set k none) ((l.take n).set s (dumb os)) st.tmps st.heap.length R te) (hw : awantedL l.toArray te os = some true) (hst : AStor P os (evalL te) st.heap k Bk) (tail : AOps P B l.toArray Q (l.drop n) ⟨te, st.heap.set k (some Bk) ++ newsL R, st.defs⟩) : AWp P B (.region id l.toArray true) Q st := by
  intro S φ a w hr
  refine wp_region_any hm ?_
  obtain ⟨c1, c2, c3, c4, c5, c6⟩ := drawOk_spec hchk
  obtain ⟨s1, s2, s3, s4⟩ := heads_spec H
  obtain ⟨lh, hlh⟩ : ∃ lh, lh = (l.take n).set s (dumb os) := ⟨_, rfl⟩
  rw [← hlh] at s1 s3 s4
  have hlen : lh.length = n := by rw [hlh]; simp; omega
  have hget : ∀ (i : Nat) (o : Oper), i < n → l.toArray[i]? = some o → i ≠ s → lh[i]? = some o := fun i o hi ho hne => by
    rw [hlh, List.getElem?_set_ne (fun e => hne e.symm), List.getElem?_take, if_pos hi]; simpa using ho
  have hgetS : lh[s]? = some (dumb os) := by rw [hlh]; exact List.getElem?_set_self (by simp; omega)
  have hget' : ∀ (i : Nat) (o : Oper), lh[i]? = some o → i ≠ s → i < n ∧ l.toArray[i]? = some o := fun i o h hne => by
    rw [hlh, List.getElem?_set_ne (fun e => hne e.symm), List.getElem?_take] at h
    split at h
    · exact ⟨by assumption, by simpa using h⟩
    · cases h
  have hdstI : ∀ (i : Nat) (o : Oper) (d : Tmp), lh[i]? = some o → o.dst = some d → i < n ∧ l.toArray[i]? = some o := fun i o d h hd => by
    by_cases hi : i = s
    · subst hi; rw [hgetS] at h; cases h; simp [dumb, hsd] at hd
    · exact hget' i o h hi
  obtain ⟨hpL, hpD⟩ : ∃ hpL : Bool → AHeap, hpL = fun b => if b then st.heap.set k (some Bk) else st.heap := ⟨_, rfl⟩
  have hpl : ∀ b, (hpL b).length = st.heap.length := fun b => by rw [hpD]; cases b <;> simp
  have hpm : ∀ b (j : Nat) (B' : Blk), (st.heap.set k none)[j]? = some (some B') → (hpL b)[j]? = some (some B') := fun b j B' hj => by
    have hne : k ≠ j := fun e => by
      subst e
      rw [List.getElem?_set] at hj
      simp at hj
    rw [List.getElem?_set_ne hne] at hj
    rw [hpD]
    cases b
    · exact hj
    · simpa [List.getElem?_set_ne hne] using hj
  -- what the last list tells of a head's place
  have place : ∀ (i : Nat) (o : Oper) (d : Tmp), lh[i]? = some o → o.dst = some d → d < st.tmps.length → ∃ r, R[i]? = some r ∧ te[d]? = some r.1 := fun i o d hi hd hlt => by
    obtain ⟨r, tsi, k1, _, _, k4⟩ := s4 i o hi
    refine ⟨r, k1, k4 d hd hlt (fun j o' hij hj hd' => ?_)⟩
    obtain ⟨hi', ho'⟩ := hdstI i o d hi hd
    obtain ⟨hj', hjo⟩ := hdstI j o' d hj hd'
    exact (c4 i j o d hi' hj' ho' (by rw [hjo]; exact hd')).2 (by omega) hd
  -- an operation of the head, told by the last list
  have headTe : ∀ (i : Nat) (o : Oper), lh[i]? = some o → i ≠ s → ∃ r, R[i]? = some r ∧ HeadAt P l.toArray (st.heap.set k none) o te (slotOf st.heap.length R i) r := fun i o hi hne => by
    obtain ⟨r, tsi, k1, k2, k3, _⟩ := s4 i o hi
    refine ⟨r, k1, headAt_congr (fun t ht => (k3 t (fun j o' hij hj hd => ?_)).symm) k2⟩
    obtain ⟨hi', ho'⟩ := hget' i o hi hne
    obtain ⟨hj', hjo⟩ := hdstI j o' t hj hd
    have := (c4 i j o t hi' hj' ho' (by rw [hjo]; exact hd)).1 (by simpa using ht)
    omega
  -- all of the head is listed: the tail
  have fin : ∀ (listed : Array Bool) (a : Act) (w : World) (S : Nat → Prop) (φ : Phi), listed.size = l.length → (∀ j, n ≤ j → listed.getD j false = false) → (∀ j, j < n → listed.getD j false = true) →
      Ext B.w B.S B.φ w S φ → DRel w S φ a.defers st.defs → HRel w S φ (hpL (listed.getD s false) ++ slotsL (fun j => listed.getD j false) 0 R) → a.tmps.size = st.tmps.length →
      (∀ (d : Tmp) (x : AV), (∀ (j : Nat) (o : Oper), lh[j]? = some o → o.dst ≠ some d) → st.tmps[d]? = some x → Rep w S φ (a.tmps.getD d Go.undef) x) →
      (∀ (i : Nat) (o : Oper) (r : HRes) (d : Tmp), lh[i]? = some o → R[i]? = some r → listed.getD i false = true → o.dst = some d → d < st.tmps.length → Rep w S φ (a.tmps.getD d Go.undef) r.1) →
      wpAny P .any l.toArray (Lift B Q) (l.length - n) listed a w := fun listed a w S φ hsz htl hall i1 i2 i3 i5 i6 i7 => by
    have hla : listed = Array.replicate n true ++ Array.replicate (l.length - n) false := by
      apply Array.ext
      · simp; omega
      · intro j hj1 hj2
        rcases Nat.lt_or_ge j n with hj | hj
        · have := hall j hj
          rw [Array.getElem_append_left (by simpa using hj)]
          simp [Array.getD, hj1] at this
          simp [this]
        · have := htl j hj
          rw [Array.getElem_append_right (by simpa using hj)]
          simp [Array.getD, hj1] at this
          simp [this]
    have hrel : Rel B S φ ⟨te, st.heap.set k (some Bk) ++ newsL R, st.defs⟩ a w := by
      refine ⟨?_, ⟨i5.trans s2.symm, fun d x hx => ?_⟩, i2, i1⟩
      · rw [← slotsL_all (fun j => listed.getD j false) R (fun j hj => hall j (by rw [s1, hlen] at hj; exact hj))]
        rw [hall s hsn, hpD] at i3
        exact i3
      · by_cases hd : ∃ (i : Nat) (o : Oper), lh[i]? = some o ∧ o.dst = some d
        · obtain ⟨i, o, hi, hdst⟩ := hd
          have hlt : d < st.tmps.length := by rw [← s2]; exact (List.getElem?_eq_some_iff.1 hx).1
          obtain ⟨r, k1, k2⟩ := place i o d hi hdst hlt
          rw [k2] at hx; cases hx
          exact i7 i o r d hi k1 (hall i (hdstI i o d hi hdst).1) hdst hlt
        · have hno : ∀ (j : Nat) (o : Oper), lh[j]? = some o → o.dst ≠ some d := fun j o hj he => hd ⟨j, o, hj, he⟩
          rw [s3 d hno] at hx
          exact i6 d x hno hx
    have hdl : (l.drop n).length = l.length - n := by simp
    have := wpAny_of_seq (P := P) (md := .any) (ops := l.toArray) (Q' := Lift B Q) (l.drop n) n listed a w (fun j => by simp [List.getElem?_drop]) (by rw [hdl, hla]; exact c6) (tail S φ a w hrel)
    rwa [hdl] at this
  have main : ∀ (m : Nat) (listed : Array Bool) (a : Act) (w : World), listed.size = l.length → Down l.toArray listed → (∀ j, n ≤ j → listed.getD j false = false) → ((List.range n).filter (fun j => !listed.getD j false)).length ≤ m →
      (∃ S φ, Ext B.w B.S B.φ w S φ ∧ DRel w S φ a.defers st.defs ∧ HRel w S φ (hpL (listed.getD s false) ++ slotsL (fun j => listed.getD j false) 0 R) ∧ (∀ i x Bn, R[i]? = some (x, some Bn) → listed.getD i false = false → φ (slotOf st.heap.length R i) = none) ∧
        a.tmps.size = st.tmps.length ∧ (∀ (d : Tmp) (x : AV), (∀ (j : Nat) (o : Oper), lh[j]? = some o → o.dst ≠ some d) → st.tmps[d]? = some x → Rep w S φ (a.tmps.getD d Go.undef) x) ∧
        (∀ (i : Nat) (o : Oper) (r : HRes) (d : Tmp), lh[i]? = some o → R[i]? = some r → listed.getD i false = true → o.dst = some d → d < st.tmps.length → Rep w S φ (a.tmps.getD d Go.undef) r.1)) →
      wpAny P .any l.toArray (Lift B Q) (m + (l.length - n)) listed a w := by
    intro m
    induction m with
    | zero =>
      intro listed a w hsz hdown htl hcnt ⟨S, φ, i1, i2, i3, i4, i5, i6, i7⟩
      have hall : ∀ j, j < n → listed.getD j false = true := fun j hj => by
        cases hb : listed.getD j false with
        | true => rfl
        | false =>
          have : j ∈ (List.range n).filter (fun j => !listed.getD j false) := List.mem_filter.2 ⟨List.mem_range.2 hj, by simp only [hb]; rfl⟩
          have := List.length_pos_of_mem this
          omega
      rw [Nat.zero_add]
      exact fin listed a w S φ hsz htl hall i1 i2 i3 i5 i6 i7
    | succ m ih =>
      intro listed a w hsz hdown htl hcnt ⟨S, φ, i1, i2, i3, i4, i5, i6, i7⟩
      by_cases hall : ∀ j, j < n → listed.getD j false = true
      · exact wpAny_add (fin listed a w S φ hsz htl hall i1 i2 i3 i5 i6 i7) (m + 1)
      rw [Nat.add_right_comm]
      have toFalse : ∀ j, j < l.length → listed.getD j true = listed.getD j false := fun j hj => by simp [Array.getD, hsz, hj]
      refine ⟨fun hready => absurd ?_ hall, fun i hi => ?_⟩
      · intro j
        induction j using Nat.strongRecOn with
        | _ j ihj =>
          intro hj
          have hjl : j < l.length := by omega
          cases hb : listed.getD j false with
          | true => rfl
          | false =>
            have : j ∈ Region.ready .any l.toArray listed := mem_ready.2 ⟨by rw [toFalse j hjl]; exact hb, l[j], by simp [hjl], fun e he hbe => ihj e.on (c2 j _ (by simp [hjl]) e he hbe) (by have := c2 j l[j] (by simp [hjl]) e he hbe; omega)⟩
            rw [hready] at this; cases this
      · obtain ⟨hun, o, ho, hpre⟩ := mem_ready.1 hi
        have hil : i < l.length := by simpa using (Array.getElem?_eq_some_iff.1 ho).1
        have hbefore := listed_of_before c3 hdown i o ho hpre
        have hin : i < n := by
          rcases Nat.lt_or_ge i n with h | h
          · exact h
          · exact absurd (fun j hj => hbefore j (by omega) (c5 i h hil j (by omega))) hall
        have hunf : listed.getD i false = false := by rw [← toFalse i hil]; exact hun
        -- the slots that it looks at
        have slot : ∀ t ∈ looks l.toArray o, ∀ x, te[t]? = some x → Rep w S φ (a.tmps.getD t Go.undef) x := fun t ht x hx => by
          by_cases hd : ∃ (j : Nat) (o' : Oper), lh[j]? = some o' ∧ o'.dst = some t
          · obtain ⟨j, o', hj, hdst⟩ := hd
            obtain ⟨hjn, hjo⟩ := hdstI j o' t hj hdst
            have hlt : t < st.tmps.length := by rw [← s2]; exact (List.getElem?_eq_some_iff.1 hx).1
            obtain ⟨r', k1, k2⟩ := place j o' t hj hdst hlt
            rw [k2] at hx; cases hx
            obtain ⟨g1, g2⟩ := (c4 i j o t hin hjn ho (by rw [hjo]; exact hdst)).1 (by simpa using ht)
            exact i7 j o' r' t hj k1 (hbefore j g1 g2) hdst hlt
          · have hno : ∀ (j : Nat) (o : Oper), lh[j]? = some o → o.dst ≠ some t := fun j o hj he => hd ⟨j, o, hj, he⟩
            rw [s3 t hno] at hx
            exact i6 t x hno hx
        have opnd : ∀ y ∈ o.op.operands, Rep w S φ (a.eval y) (evalL te y) := fun y hy => by
          cases y with
          | tmp t =>
            simp only [evalL, Act.eval]
            cases hx : te[t]? with
            | none => simp [List.getD_eq_getElem?_getD, hx]; exact .any
            | some x =>
              have := slot t (by
                simp only [looks, List.mem_append, List.mem_filterMap]
                exact .inl ⟨.tmp t, by simpa using hy, rfl⟩) x hx
              simpa [List.getD_eq_getElem?_getD, hx] using this
          | const v => exact rep_ofConst ..
          | global g => exact .any
          | func f => exact .fn rfl rfl (fun j x h => by simp at h) (fun j x h => by simp at h)
        have hsize' : (listed.setIfInBounds i true).size = l.length := by simpa using hsz
        have hset : ∀ j, (listed.setIfInBounds i true).getD j false = if j = i then true else listed.getD j false := fun j => by
          by_cases hji : j = i
          · subst hji; simp [Array.getD, hsz, hil]
          · rw [if_neg hji]
            have : i ≠ j := fun e => hji e.symm
            simp [Array.getD_eq_getD_getElem?, Array.getElem?_setIfInBounds, this]
        have hfun : (fun j => (listed.setIfInBounds i true).getD j false) = fun j => if j = 0 + i then true else listed.getD j false := funext fun j => by rw [hset, Nat.zero_add]
        have hdown' : Down l.toArray (listed.setIfInBounds i true) := fun j oj hoj hl e he hb => by
          rw [hset] at hl ⊢
          split
          · rfl
          · by_cases hji : j = i
            · subst hji; rw [ho] at hoj; cases hoj; exact hpre e he hb
            · rw [if_neg hji] at hl; exact hdown j oj hoj hl e he hb
        have htl' : ∀ j, n ≤ j → (listed.setIfInBounds i true).getD j false = false := fun j hj => by rw [hset, if_neg (by omega)]; exact htl j hj
        have hcnt' : ((List.range n).filter (fun j => !(listed.setIfInBounds i true).getD j false)).length ≤ m := by
          have := filter_less (fun j => !listed.getD j false) (fun j => !(listed.setIfInBounds i true).getD j false) (List.range n) i (fun y _ hy => by
            simp only [hset] at hy
            split at hy
            · simp at hy
            · exact hy) (List.mem_range.2 hin) (by simp only [hunf]; rfl) (by simp only [hset, if_pos]; rfl)
          omega
        -- what is left behind it
        have hdI : ∀ (o' : Oper), lh[i]? = some o' → o'.dst = o.dst := fun o' h => by
          by_cases hi : i = s
          · subst hi
            rw [hgetS] at h; cases h
            have : l.toArray[i]? = some os := by simpa using hos
            rw [ho] at this; cases this; rfl
          · rw [hget i o hin ho hi] at h; cases h; rfl
        obtain ⟨oi, hoi⟩ : ∃ oi, lh[i]? = some oi := ⟨_, List.getElem?_eq_getElem (by omega)⟩
        have done : ∀ (v : Value) (w' : World) (S' : Nat → Prop) (φ' : Phi), HRel w' S' φ' (hpL ((listed.setIfInBounds i true).getD s false) ++ slotsL (fun j => (listed.setIfInBounds i true).getD j false) 0 R) → Ext w S φ w' S' φ' →
            (∀ i' x Bn, R[i']? = some (x, some Bn) → (listed.setIfInBounds i true).getD i' false = false → φ' (slotOf st.heap.length R i') = none) → (∀ d r, o.dst = some d → R[i]? = some r → Rep w' S' φ' v r.1) →
            wpAny P .any l.toArray (Lift B Q) (m + (l.length - n)) (listed.setIfInBounds i true) (a.put o.dst v) w' := fun v w' S' φ' g1 g2 g3 g4 => by
          refine ih _ _ _ hsize' hdown' htl' hcnt' ⟨S', φ', i1.trans g2, ?_, g1, g3, (put_size ..).trans i5, fun d x hno hx => ?_, fun j o' r' d hj hrj hl hd hlt => ?_⟩
          · have : (a.put o.dst v).defers = a.defers := by cases o.dst <;> rfl
            rw [this]; exact i2.step g2.step
          · rw [put_get (hdI oi hoi ▸ hno i oi hoi)]; exact (i6 d x hno hx).step g2.step
          · by_cases hji : j = i
            · subst hji
              have hod := hdI o' hj
              rw [hd] at hod
              rw [← hod, put_same (by rw [i5]; exact hlt)]
              exact g4 d r' hod.symm hrj
            · rw [hset, if_neg hji] at hl
              obtain ⟨hjn, hjo⟩ := hdstI j o' d hj hd
              have := (c4 i j o d hin hjn ho (by rw [hjo]; exact hd)).2 hji
              rw [put_get this]
              exact (i7 j o' r' d hj hrj hl hd hlt).step g2.step
        unfold wpOp
        simp only [ho]
        by_cases his : i = s
        · subst his
          have hoo : o = os := by
            have : l.toArray[i]? = some os := by simpa using hos
            rw [ho] at this; cases this; rfl
          subst hoo
          rw [if_pos (wanted_of' (i5.trans s2.symm) slot hw)]
          rw [hunf] at i3
          have hp0 : hpL false = st.heap := by rw [hpD]; rfl
          have hp1 : hpL true = st.heap.set k (some Bk) := by rw [hpD]; rfl
          rw [hp0] at i3
          refine .inl (hst w S φ a _ _ _ i3 (fun j hj => List.getElem?_append_left hj) opnd fun w' h1 h2 => ?_)
          refine done Go.undef w' S φ ?_ h2 (fun i' x' Bn hi' hl => ?_) (fun d r hd => by rw [hsd] at hd; cases hd)
          · rw [hset, if_pos rfl, hp1, hfun, slotsL_none _ R 0 i x0 hR]
            rw [List.set_append_left _ _ hkl] at h1; exact h1
          · rw [hset] at hl
            split at hl
            · cases hl
            · exact i4 i' x' Bn hi' hl
        obtain ⟨r, hr1, hr2⟩ := headTe i o (hget i o hin ho his) his
        have hsl : (listed.setIfInBounds i true).getD s false = listed.getD s false := by rw [hset, if_neg (fun e => his e.symm)]
        rcases hr2 with ⟨hw, hh⟩ | ⟨hw, hr0⟩
        · rw [if_pos (wanted_of' (i5.trans s2.symm) slot hw)]
          refine .inl (hh w S φ a _ _ (fun k Bk hk => ?_) i3.bound opnd (fun k Bn hk => ?_) fun v w' S' φ' h1 h2 h3 h4 h5 h6 => ?_)
          · have hk1 := hpm (listed.getD s false) k Bk hk
            exact i3.live k Bk (by rw [List.getElem?_append_left (List.getElem?_eq_some_iff.1 hk1).1]; exact hk1)
          · obtain ⟨x, nb⟩ := r
            cases nb with
            | none => simp at hk
            | some Bn' =>
              simp at hk
              rw [← hk.1]
              exact i4 i x Bn' hr1 hunf
          · obtain ⟨x, nb⟩ := r
            cases nb with
            | none =>
              have e : φ' = φ := h5
              subst e
              obtain ⟨g1, g2⟩ := hrel_quiet i3 h1 h2 h3 h4
              refine done v w' S' φ' ?_ g2 (fun i' x' Bn hi' hl => ?_) (fun d r _ hr => by rw [hr1] at hr; cases hr; exact h6)
              · rw [hsl, hfun, slotsL_none _ R 0 i x hr1]; exact g1
              · rw [hset] at hl
                split at hl
                · cases hl
                · exact i4 i' x' Bn hi' hl
            | some Bn =>
              have h5' : NewRel (some (slotOf st.heap.length R i, Bn)) w w' S' φ φ' := h5
              obtain ⟨q1, q2, q3, q4⟩ := slotsL_set (fun j => listed.getD j false) R 0 st.heap.length i x Bn hr1
              have hge := slotOf_ge R st.heap.length i
              obtain ⟨g1, g2⟩ := hrel_slot (h' := hpL (listed.getD s false) ++ slotsL (fun j => (listed.setIfInBounds i true).getD j false) 0 R) i3 h1 h2 h3 h4 h5' (i4 i x Bn hr1 hunf)
                (by rw [List.length_append, hpl, slotsL_length _ (fun j => listed.getD j false) R 0 0]; omega)
                (by rw [List.length_append, List.length_append, slotsL_length (fun j => (listed.setIfInBounds i true).getD j false) (fun j => listed.getD j false) R 0 0]; omega)
                (by rw [List.getElem?_append_right (by rw [hpl]; exact hge), hpl, hfun]; exact q2)
                (fun j hj hjl => by
                  left
                  rcases Nat.lt_or_ge j (hpL (listed.getD s false)).length with hlt | hge'
                  · rw [List.getElem?_append_left hlt, List.getElem?_append_left hlt]
                  · rw [List.getElem?_append_right hge', List.getElem?_append_right hge', hfun]
                    exact q4 _ (by rw [hpl] at hge' ⊢; omega))
              refine done v w' S' φ' (by rw [hsl]; exact g1) g2 (fun i' x' Bn' hi' hl => ?_) (fun d r _ hr => by rw [hr1] at hr; cases hr; exact h6)
              obtain ⟨_, g, rfl, _⟩ := h5'
              rw [hset] at hl
              split at hl
              · cases hl
              · rename_i hne
                simp only [updPhi, slotOf_inj hr1 hi' hne, if_false]
                exact i4 i' x' Bn' hi' hl
        · subst hr0
          rw [if_neg (by simp [wanted_of' (i5.trans s2.symm) slot hw])]
          refine done Go.undef w S φ ?_ (.refl _ _ _) (fun i' x' Bn hi' hl => ?_) (fun d r _ hr => by rw [hr1] at hr; cases hr; exact .undef)
          · rw [hsl, hfun, slotsL_none _ R 0 i .undef hr1]; exact i3
          · rw [hset] at hl
            split at hl
            · cases hl
            · exact i4 i' x' Bn hi' hl
  have hrd := hrel_drew hr.heap
  have := main n (Array.replicate l.length false) a w.drew (by simp) (fun i o _ h => by
      rw [getD_replicate_false] at h; cases h) (fun j _ => getD_replicate_false _ _) (by
      refine Nat.le_trans (List.length_filter_le _ _) (by simp)) ⟨S, φ, hr.ext.trans hrd.2, hr.defs.step hrd.2.step, ?_, fun i x Bn hi _ => ?_, hr.tmps.1, fun d x _ hx => (hr.tmps.2 d x hx).step hrd.2.step, fun i o r d _ _ hl => by rw [getD_replicate_false] at hl; cases hl⟩
  · rw [show n + (l.length - n) = l.toArray.size by simp; omega] at this
    simpa using this
  · rw [getD_replicate_false, hpD]
    exact hrel_holes hrd.1 (slotsL_false _ R 0 (fun j => getD_replicate_false _ _))
  · exact hr.heap.dom _ (slotOf_ge _ _ _)


section
variable {P : Program} {T : TT}
/-- The whole of a variable is written. -/
theorem astor_all (hT : TOk P T) {o : Oper} {ρ : Operand → AV} {hp : AHeap} {k : Nat} {t : TypeId} {d : TD} {p x : Operand} {cs : List AV} {v : AV} (ho : o.op = .store t p x) (hdst : o.dst = none) (hd : T t = some d) (hpp : ρ p = .ptr k 0) (hk : hp[k]? = some (some (.var cs)))
    (hv : strict (ρ x) = some v) (hl : Nat.beq v.cellsOf.length d.size = true) (hfit : Nat.beq cs.length d.size = true) (hs : v.cellsOf.all AV.scal = true) {B' : Blk} (hB : Blk.var v.cellsOf = B') : AStor P o ρ hp k B' := fun w S φ a next Q H hr hH hev hn => by
  rw [strict_eq] at hv
  cases hv
  subst hB
  have h1 := Nat.eq_of_beq_eq_true hl
  have h2 := Nat.eq_of_beq_eq_true hfit
  have hkH : H[k]? = some (some (.var cs)) := by rw [hH k (List.getElem?_eq_some_iff.1 hk).1]; exact hk
  have hs' : (ρ x).cellsOf.all (solid H) = true := List.all_eq_true.2 fun y hy => by
    have := List.all_eq_true.1 hs y hy
    cases y <;> simp [AV.scal] at this <;> rfl
  obtain ⟨k1, k2, k3⟩ := cells_rep hr.live (hev x (by simp [ho, Op.operands])) hs'
  have hpr := hev p (by simp [ho, Op.operands])
  rw [hpp] at hpr
  obtain ⟨_, g, q1, q2⟩ := hr.live k _ hkH
  generalize hpv : a.eval p = pv at hpr
  cases hpr with
  | ptr hk' hv' =>
    obtain ⟨g', h3, rfl⟩ := hv' _ q1 rfl
    simp [Blk.loc] at h3
    subst h3
    obtain ⟨_, cur, ty, h4, h5, h6, h7⟩ := q2
    have h6' : cur.size = cs.length := h6
    have hrun := run_storeAt hT hd (off := 0) h4 (k1.trans h1) k2 (by omega)
    have hcs : (splice 0 (ρ x).cellsOf cs) = (ρ x).cellsOf := by
      simp only [splice, List.take_zero, List.nil_append, Nat.zero_add]
      rw [List.drop_eq_nil_of_le (by omega), List.append_nil]
    obtain ⟨g1, g2⟩ := splice_set hr hkH q1 h4 h6' h7 (vs := (a.eval x).cells.toList) (xs := (ρ x).cellsOf) (off := 0) (by simpa using k1) (fun j y hj => by
      have := k3 j y hj
      simpa [List.getD_eq_getElem?_getD, Array.getD_eq_getD_getElem?] using this) (by omega)
    rw [hcs] at g1
    have := hn _ g1 g2
    rw [hdst] at this
    unfold Oper.wp execOp
    simp only [ho, hpv, Sem.run_bind, hrun, Result.andThen_ok, Sem.run_pure, Oper.upon_skip, hdst]
    exact this

theorem awp_late {B : Base} {Q : AExit → ASt → Prop} {id : Nat} {l : List Oper} {ts : List AV} {hp hp' : AHeap} {ds : List (FuncId × List AV)} (n s k : Nat) {os : Oper} (hm : P.follows .mixedOrders = true) (hchk : drawOk l n = true) (hos : l[s]? = some os) (hsn : s < n) (hsd : os.dst = none) (hkl : k < hp.length) (hmask : hp.set k none = hp')
    (H : HeadsK P l.toArray hp' (fun R te => (∃ x0, R[s]? = some (x0, none)) ∧ awantedL l.toArray te os = some true ∧ ∃ Bk, AStor P os (evalL te) hp k Bk ∧ AOps P B l.toArray Q (l.drop n) ⟨te, hp.set k (some Bk) ++ newsL R, ds⟩) ((l.take n).set s (dumb os)) ts hp.length) : AWp P B (.region id l.toArray true) Q ⟨ts, hp, ds⟩ := by
  subst hmask
  obtain ⟨R, te, h1, ⟨x0, h2⟩, h3, Bk, h4, h5⟩ := H.out
  exact awp_region_late (st := ⟨ts, hp, ds⟩) n s k hm hchk hos hsn hsd hkl h2 h1 h3 h4 h5
theorem hk_dumb {ops : Array Oper} {hp : AHeap} {K : List HRes → List AV → Prop} {o : Oper} {os : List Oper} {ts : List AV} {s : Nat} (hd : o.dst = none) (hr : HeadsK P ops hp (fun R te => K ((.bool false, none) :: R) te) os ts s) : HeadsK P ops hp K (dumb o :: os) ts s := by
  refine .quiet rfl head_dumb ?_
  have : putL ts (dumb o).dst (.bool false) = ts := by simp [dumb, hd, putL]
  rw [this]; exact hr
end
end Go.Proofs.Ytpckfpahmnhfcaa.G
