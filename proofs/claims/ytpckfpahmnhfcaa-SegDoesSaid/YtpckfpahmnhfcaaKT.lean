/- From typed abstract values to plain data. Printed by wip/gen/pwrun.py. -/
import Derived.Test.YtpckfpahmnhfcaaG12
import Derived.Test.YtpckfpahmnhfcaaG19
import Derived.Test.YtpckfpahmnhfcaaKD
namespace Go.Proofs.Ytpckfpahmnhfcaa.K
open Go Go.RowKit Go.Proofs.Ytpckfpahmnhfcaa.G
set_option linter.unusedVariables false
set_option maxRecDepth 10000
def OkI (k : IntKind) (n : Int) : Prop := (Lit.int k n).wf = true
def OkL {α : Type} (p : α → Prop) (l : List α) : Prop := l.length ≤ maxLen ∧ ∀ e, e ∈ l → p e
def OkT {α : Type} (_ : α) : Prop := True
/-- Every list of abstract values at a type is some plain value, laid open. -/
def TypR {α : Type} (t : TypeId) (enc : α → List AV) (ok : α → Prop) : Prop := ∀ xs, Typ tt t xs → ∃ x, xs = enc x ∧ ok x
theorem typR_i {t : TypeId} {d : TD} (k : IntKind) (hd : tt t = some d) (hk : d.kind = .int k) : TypR t (encI k) (OkI k) := fun xs h => by
  obtain ⟨n, e, w⟩ := typ_int h hd hk; exact ⟨n, e, w⟩
theorem typR_b {t : TypeId} {d : TD} (hd : tt t = some d) (hk : d.kind = .bool) : TypR t encB OkT := fun xs h => by
  obtain ⟨b, e⟩ := typ_bool h hd hk; exact ⟨b, e, trivial⟩
theorem typR_l {α : Type} {t e : TypeId} {d : TD} {enc : α → List AV} {ok : α → Prop} (hd : tt t = some d) (hk : d.kind = .slice e) (he : TypR e enc ok) : TypR t (encL enc) (OkL ok) := fun xs h => by
  obtain ⟨rows, rfl, hr, hb⟩ := typ_sliceB h hd hk
  have key : ∀ rows : List (List AV), (∀ el, el ∈ rows → Typ tt e el) → ∃ l : List α, rows = l.map enc ∧ ∀ x, x ∈ l → ok x := by
    intro rows
    induction rows with
    | nil => intro _; exact ⟨[], rfl, fun x h => by cases h⟩
    | cons r rows ih =>
      intro h
      obtain ⟨m, rfl, hm⟩ := he r (h r (by simp))
      obtain ⟨l, rfl, hl⟩ := ih fun el he => h el (by simp [he])
      exact ⟨m :: l, rfl, fun x hx => by
        rcases List.mem_cons.1 hx with rfl | hx
        · exact hm
        · exact hl x hx⟩
  obtain ⟨l, rfl, hl⟩ := key rows hr
  exact ⟨l, rfl, by simpa using hb, hl⟩
def cuts (xs : List AV) : Nat → List Nat → List AV
  | _, [] => []
  | o, s :: r => (xs.drop o).take s ++ cuts xs (o + s) r
theorem cuts_eq (xs : List AV) : ∀ (ss : List Nat) (o : Nat), xs.length = o + ss.foldr (· + ·) 0 → xs.drop o = cuts xs o ss
  | [], o, h => by unfold cuts; exact List.drop_eq_nil_of_le (by simp at h; omega)
  | s :: r, o, h => by
    unfold cuts
    rw [← cuts_eq xs r (o + s) (by simp at h; omega), ← List.drop_drop, List.take_append_drop]

def encAr4 {α : Type} (enc : α → List AV) (a : Arr4 α) : List AV := enc a.e0 ++ (enc a.e1 ++ (enc a.e2 ++ (enc a.e3)))
structure OkA4 {α : Type} (ok : α → Prop) (a : Arr4 α) : Prop where
  e0 : ok a.e0
  e1 : ok a.e1
  e2 : ok a.e2
  e3 : ok a.e3
theorem typR_a4 {α : Type} {t e : TypeId} {d ed : TD} {enc : α → List AV} {ok : α → Prop} (z : Nat) (hd : tt t = some d) (hk : d.kind = .array 4 e) (hed : tt e = some ed) (hz : ed.size = z) (hs : d.size = 4 * z) (he : TypR e enc ok) : TypR t (encAr4 enc) (OkA4 ok) := fun xs h => by
  obtain ⟨hl, hf⟩ := typ_array h hd hk hed
  rw [hz] at hf
  obtain ⟨x0, e0, k0⟩ := he _ (hf 0 (by omega))
  obtain ⟨x1, e1, k1⟩ := he _ (hf 1 (by omega))
  obtain ⟨x2, e2, k2⟩ := he _ (hf 2 (by omega))
  obtain ⟨x3, e3, k3⟩ := he _ (hf 3 (by omega))
  have hx := cuts_eq xs [z, z, z, z] 0 (by rw [hl, hs]; simp only [List.foldr]; omega)
  have hy : cuts xs 0 [z, z, z, z] = (xs.drop (0 * z)).take z ++ ((xs.drop (1 * z)).take z ++ ((xs.drop (2 * z)).take z ++ ((xs.drop (3 * z)).take z))) := by simp only [cuts, List.append_nil]; congr <;> first | omega | exact (Nat.zero_mul z).symm | exact Nat.zero_mul z
  rw [List.drop_zero, hy, e0, e1, e2, e3] at hx
  exact ⟨⟨x0, x1, x2, x3⟩, hx, ⟨k0, k1, k2, k3⟩⟩
def encAr16 {α : Type} (enc : α → List AV) (a : Arr16 α) : List AV := enc a.e0 ++ (enc a.e1 ++ (enc a.e2 ++ (enc a.e3 ++ (enc a.e4 ++ (enc a.e5 ++ (enc a.e6 ++ (enc a.e7 ++ (enc a.e8 ++ (enc a.e9 ++ (enc a.e10 ++ (enc a.e11 ++ (enc a.e12 ++ (enc a.e13 ++ (enc a.e14 ++ (enc a.e15)))))))))))))))
structure OkA16 {α : Type} (ok : α → Prop) (a : Arr16 α) : Prop where
  e0 : ok a.e0
  e1 : ok a.e1
  e2 : ok a.e2
  e3 : ok a.e3
  e4 : ok a.e4
  e5 : ok a.e5
  e6 : ok a.e6
  e7 : ok a.e7
  e8 : ok a.e8
  e9 : ok a.e9
  e10 : ok a.e10
  e11 : ok a.e11
  e12 : ok a.e12
  e13 : ok a.e13
  e14 : ok a.e14
  e15 : ok a.e15
theorem typR_a16 {α : Type} {t e : TypeId} {d ed : TD} {enc : α → List AV} {ok : α → Prop} (z : Nat) (hd : tt t = some d) (hk : d.kind = .array 16 e) (hed : tt e = some ed) (hz : ed.size = z) (hs : d.size = 16 * z) (he : TypR e enc ok) : TypR t (encAr16 enc) (OkA16 ok) := fun xs h => by
  obtain ⟨hl, hf⟩ := typ_array h hd hk hed
  rw [hz] at hf
  obtain ⟨x0, e0, k0⟩ := he _ (hf 0 (by omega))
  obtain ⟨x1, e1, k1⟩ := he _ (hf 1 (by omega))
  obtain ⟨x2, e2, k2⟩ := he _ (hf 2 (by omega))
  obtain ⟨x3, e3, k3⟩ := he _ (hf 3 (by omega))
  obtain ⟨x4, e4, k4⟩ := he _ (hf 4 (by omega))
  obtain ⟨x5, e5, k5⟩ := he _ (hf 5 (by omega))
  obtain ⟨x6, e6, k6⟩ := he _ (hf 6 (by omega))
  obtain ⟨x7, e7, k7⟩ := he _ (hf 7 (by omega))
  obtain ⟨x8, e8, k8⟩ := he _ (hf 8 (by omega))
  obtain ⟨x9, e9, k9⟩ := he _ (hf 9 (by omega))
  obtain ⟨x10, e10, k10⟩ := he _ (hf 10 (by omega))
  obtain ⟨x11, e11, k11⟩ := he _ (hf 11 (by omega))
  obtain ⟨x12, e12, k12⟩ := he _ (hf 12 (by omega))
  obtain ⟨x13, e13, k13⟩ := he _ (hf 13 (by omega))
  obtain ⟨x14, e14, k14⟩ := he _ (hf 14 (by omega))
  obtain ⟨x15, e15, k15⟩ := he _ (hf 15 (by omega))
  have hx := cuts_eq xs [z, z, z, z, z, z, z, z, z, z, z, z, z, z, z, z] 0 (by rw [hl, hs]; simp only [List.foldr]; omega)
  have hy : cuts xs 0 [z, z, z, z, z, z, z, z, z, z, z, z, z, z, z, z] = (xs.drop (0 * z)).take z ++ ((xs.drop (1 * z)).take z ++ ((xs.drop (2 * z)).take z ++ ((xs.drop (3 * z)).take z ++ ((xs.drop (4 * z)).take z ++ ((xs.drop (5 * z)).take z ++ ((xs.drop (6 * z)).take z ++ ((xs.drop (7 * z)).take z ++ ((xs.drop (8 * z)).take z ++ ((xs.drop (9 * z)).take z ++ ((xs.drop (10 * z)).take z ++ ((xs.drop (11 * z)).take z ++ ((xs.drop (12 * z)).take z ++ ((xs.drop (13 * z)).take z ++ ((xs.drop (14 * z)).take z ++ ((xs.drop (15 * z)).take z))))))))))))))) := by simp only [cuts, List.append_nil]; congr <;> first | omega | exact (Nat.zero_mul z).symm | exact Nat.zero_mul z
  rw [List.drop_zero, hy, e0, e1, e2, e3, e4, e5, e6, e7, e8, e9, e10, e11, e12, e13, e14, e15] at hx
  exact ⟨⟨x0, x1, x2, x3, x4, x5, x6, x7, x8, x9, x10, x11, x12, x13, x14, x15⟩, hx, ⟨k0, k1, k2, k3, k4, k5, k6, k7, k8, k9, k10, k11, k12, k13, k14, k15⟩⟩
structure PairD.Ok (x : PairD) : Prop where
  Cat : (OkI .u64) x.Cat
  Lev : (OkI .i64) x.Lev
theorem typR_PairD : TypR 111 encPairD PairD.Ok := fun xs h => by
  obtain ⟨hl, hf⟩ := typ_struct h rfl rfl
  obtain ⟨x0, e0, k0⟩ := (typR_i .u64 (t := 23) rfl rfl) _ (hf (0, 23) _ (by simp) rfl)
  change (xs.drop 0).take 1 = _ at e0
  obtain ⟨x1, e1, k1⟩ := (typR_i .i64 (t := 3) rfl rfl) _ (hf (1, 3) _ (by simp) rfl)
  change (xs.drop 1).take 1 = _ at e1
  have hx := cuts_eq xs [1, 1] 0 hl
  have hy : cuts xs 0 [1, 1] = (xs.drop 0).take 1 ++ ((xs.drop 1).take 1 ++ []) := rfl
  rw [List.drop_zero, hy, e0, e1] at hx
  exact ⟨⟨x0, x1⟩, hx, ⟨k0, k1⟩⟩
structure MapD.Ok (x : MapD) : Prop where
  Va : (OkI .i64) x.Va
  N : (OkI .i64) x.N
  Cont : (OkI .u64) x.Cont
  Seg : (OkI .u64) x.Seg
  Off : (OkI .i64) x.Off
  Write : OkT x.Write
theorem typR_MapD : TypR 25 encMapD MapD.Ok := fun xs h => by
  obtain ⟨hl, hf⟩ := typ_struct h rfl rfl
  obtain ⟨x0, e0, k0⟩ := (typR_i .i64 (t := 3) rfl rfl) _ (hf (0, 3) _ (by simp) rfl)
  change (xs.drop 0).take 1 = _ at e0
  obtain ⟨x1, e1, k1⟩ := (typR_i .i64 (t := 3) rfl rfl) _ (hf (1, 3) _ (by simp) rfl)
  change (xs.drop 1).take 1 = _ at e1
  obtain ⟨x2, e2, k2⟩ := (typR_i .u64 (t := 23) rfl rfl) _ (hf (2, 23) _ (by simp) rfl)
  change (xs.drop 2).take 1 = _ at e2
  obtain ⟨x3, e3, k3⟩ := (typR_i .u64 (t := 23) rfl rfl) _ (hf (3, 23) _ (by simp) rfl)
  change (xs.drop 3).take 1 = _ at e3
  obtain ⟨x4, e4, k4⟩ := (typR_i .i64 (t := 3) rfl rfl) _ (hf (4, 3) _ (by simp) rfl)
  change (xs.drop 4).take 1 = _ at e4
  obtain ⟨x5, e5, k5⟩ := (typR_b (t := 4) rfl rfl) _ (hf (5, 4) _ (by simp) rfl)
  change (xs.drop 5).take 1 = _ at e5
  have hx := cuts_eq xs [1, 1, 1, 1, 1, 1] 0 hl
  have hy : cuts xs 0 [1, 1, 1, 1, 1, 1] = (xs.drop 0).take 1 ++ ((xs.drop 1).take 1 ++ ((xs.drop 2).take 1 ++ ((xs.drop 3).take 1 ++ ((xs.drop 4).take 1 ++ ((xs.drop 5).take 1 ++ []))))) := rfl
  rw [List.drop_zero, hy, e0, e1, e2, e3, e4, e5] at hx
  exact ⟨⟨x0, x1, x2, x3, x4, x5⟩, hx, ⟨k0, k1, k2, k3, k4, k5⟩⟩
structure RefD.Ok (x : RefD) : Prop where
  Cont : (OkI .u64) x.Cont
  Id : (OkI .u64) x.Id
theorem typR_RefD : TypR 46 encRefD RefD.Ok := fun xs h => by
  obtain ⟨hl, hf⟩ := typ_struct h rfl rfl
  obtain ⟨x0, e0, k0⟩ := (typR_i .u64 (t := 23) rfl rfl) _ (hf (0, 23) _ (by simp) rfl)
  change (xs.drop 0).take 1 = _ at e0
  obtain ⟨x1, e1, k1⟩ := (typR_i .u64 (t := 23) rfl rfl) _ (hf (1, 23) _ (by simp) rfl)
  change (xs.drop 1).take 1 = _ at e1
  have hx := cuts_eq xs [1, 1] 0 hl
  have hy : cuts xs 0 [1, 1] = (xs.drop 0).take 1 ++ ((xs.drop 1).take 1 ++ []) := rfl
  rw [List.drop_zero, hy, e0, e1] at hx
  exact ⟨⟨x0, x1⟩, hx, ⟨k0, k1⟩⟩
structure WaitD.Ok (x : WaitD) : Prop where
  Ref : RefD.Ok x.Ref
  Index : (OkI .u64) x.Index
  Val : (OkI .u64) x.Val
  Dev : OkT x.Dev
theorem typR_WaitD : TypR 48 encWaitD WaitD.Ok := fun xs h => by
  obtain ⟨hl, hf⟩ := typ_struct h rfl rfl
  obtain ⟨x0, e0, k0⟩ := typR_RefD _ (hf (0, 46) _ (by simp) rfl)
  change (xs.drop 0).take 2 = _ at e0
  obtain ⟨x1, e1, k1⟩ := (typR_i .u64 (t := 23) rfl rfl) _ (hf (2, 23) _ (by simp) rfl)
  change (xs.drop 2).take 1 = _ at e1
  obtain ⟨x2, e2, k2⟩ := (typR_i .u64 (t := 23) rfl rfl) _ (hf (3, 23) _ (by simp) rfl)
  change (xs.drop 3).take 1 = _ at e2
  obtain ⟨x3, e3, k3⟩ := (typR_b (t := 4) rfl rfl) _ (hf (4, 4) _ (by simp) rfl)
  change (xs.drop 4).take 1 = _ at e3
  have hx := cuts_eq xs [2, 1, 1, 1] 0 hl
  have hy : cuts xs 0 [2, 1, 1, 1] = (xs.drop 0).take 2 ++ ((xs.drop 2).take 1 ++ ((xs.drop 3).take 1 ++ ((xs.drop 4).take 1 ++ []))) := rfl
  rw [List.drop_zero, hy, e0, e1, e2, e3] at hx
  exact ⟨⟨x0, x1, x2, x3⟩, hx, ⟨k0, k1, k2, k3⟩⟩
structure SpanD.Ok (x : SpanD) : Prop where
  Lo : (OkI .u64) x.Lo
  Hi : (OkI .u64) x.Hi
theorem typR_SpanD : TypR 50 encSpanD SpanD.Ok := fun xs h => by
  obtain ⟨hl, hf⟩ := typ_struct h rfl rfl
  obtain ⟨x0, e0, k0⟩ := (typR_i .u64 (t := 23) rfl rfl) _ (hf (0, 23) _ (by simp) rfl)
  change (xs.drop 0).take 1 = _ at e0
  obtain ⟨x1, e1, k1⟩ := (typR_i .u64 (t := 23) rfl rfl) _ (hf (1, 23) _ (by simp) rfl)
  change (xs.drop 1).take 1 = _ at e1
  have hx := cuts_eq xs [1, 1] 0 hl
  have hy : cuts xs 0 [1, 1] = (xs.drop 0).take 1 ++ ((xs.drop 1).take 1 ++ []) := rfl
  rw [List.drop_zero, hy, e0, e1] at hx
  exact ⟨⟨x0, x1⟩, hx, ⟨k0, k1⟩⟩
structure ThreadD.Ok (x : ThreadD) : Prop where
  Regs : (OkA16 (OkI .u64)) x.Regs
  Pc : (OkI .u64) x.Pc
  Clear : (OkL PairD.Ok) x.Clear
  Space : RefD.Ok x.Space
  Handler : (OkI .u64) x.Handler
  Vector : (OkI .u64) x.Vector
  State : (OkI .i64) x.State
  Wait : WaitD.Ok x.Wait
  Alerts : (OkL (OkI .u64)) x.Alerts
  Span : SpanD.Ok x.Span
  Labs : (OkA4 (OkL PairD.Ok)) x.Labs
theorem typR_ThreadD : TypR 53 encThreadD ThreadD.Ok := fun xs h => by
  obtain ⟨hl, hf⟩ := typ_struct h rfl rfl
  obtain ⟨x0, e0, k0⟩ := (typR_a16 (t := 44) 1 rfl rfl rfl rfl rfl (typR_i .u64 (t := 23) rfl rfl)) _ (hf (0, 44) _ (by simp) rfl)
  change (xs.drop 0).take 16 = _ at e0
  obtain ⟨x1, e1, k1⟩ := (typR_i .u64 (t := 23) rfl rfl) _ (hf (16, 23) _ (by simp) rfl)
  change (xs.drop 16).take 1 = _ at e1
  obtain ⟨x2, e2, k2⟩ := (typR_l (t := 42) rfl rfl typR_PairD) _ (hf (17, 42) _ (by simp) rfl)
  change (xs.drop 17).take 1 = _ at e2
  obtain ⟨x3, e3, k3⟩ := typR_RefD _ (hf (18, 46) _ (by simp) rfl)
  change (xs.drop 18).take 2 = _ at e3
  obtain ⟨x4, e4, k4⟩ := (typR_i .u64 (t := 23) rfl rfl) _ (hf (20, 23) _ (by simp) rfl)
  change (xs.drop 20).take 1 = _ at e4
  obtain ⟨x5, e5, k5⟩ := (typR_i .u64 (t := 23) rfl rfl) _ (hf (21, 23) _ (by simp) rfl)
  change (xs.drop 21).take 1 = _ at e5
  obtain ⟨x6, e6, k6⟩ := (typR_i .i64 (t := 3) rfl rfl) _ (hf (22, 3) _ (by simp) rfl)
  change (xs.drop 22).take 1 = _ at e6
  obtain ⟨x7, e7, k7⟩ := typR_WaitD _ (hf (23, 48) _ (by simp) rfl)
  change (xs.drop 23).take 5 = _ at e7
  obtain ⟨x8, e8, k8⟩ := (typR_l (t := 43) rfl rfl (typR_i .u64 (t := 23) rfl rfl)) _ (hf (28, 43) _ (by simp) rfl)
  change (xs.drop 28).take 1 = _ at e8
  obtain ⟨x9, e9, k9⟩ := typR_SpanD _ (hf (29, 50) _ (by simp) rfl)
  change (xs.drop 29).take 2 = _ at e9
  obtain ⟨x10, e10, k10⟩ := (typR_a4 (t := 51) 1 rfl rfl rfl rfl rfl (typR_l (t := 42) rfl rfl typR_PairD)) _ (hf (31, 51) _ (by simp) rfl)
  change (xs.drop 31).take 4 = _ at e10
  have hx := cuts_eq xs [16, 1, 1, 2, 1, 1, 1, 5, 1, 2, 4] 0 hl
  have hy : cuts xs 0 [16, 1, 1, 2, 1, 1, 1, 5, 1, 2, 4] = (xs.drop 0).take 16 ++ ((xs.drop 16).take 1 ++ ((xs.drop 17).take 1 ++ ((xs.drop 18).take 2 ++ ((xs.drop 20).take 1 ++ ((xs.drop 21).take 1 ++ ((xs.drop 22).take 1 ++ ((xs.drop 23).take 5 ++ ((xs.drop 28).take 1 ++ ((xs.drop 29).take 2 ++ ((xs.drop 31).take 4 ++ [])))))))))) := rfl
  rw [List.drop_zero, hy, e0, e1, e2, e3, e4, e5, e6, e7, e8, e9, e10] at hx
  exact ⟨⟨x0, x1, x2, x3, x4, x5, x6, x7, x8, x9, x10⟩, hx, ⟨k0, k1, k2, k3, k4, k5, k6, k7, k8, k9, k10⟩⟩
structure GateD.Ok (x : GateD) : Prop where
  Grant : (OkL PairD.Ok) x.Grant
  Clear : (OkL PairD.Ok) x.Clear
  Space : RefD.Ok x.Space
  Pc : (OkI .u64) x.Pc
  Arg : (OkI .u64) x.Arg
theorem typR_GateD : TypR 55 encGateD GateD.Ok := fun xs h => by
  obtain ⟨hl, hf⟩ := typ_struct h rfl rfl
  obtain ⟨x0, e0, k0⟩ := (typR_l (t := 42) rfl rfl typR_PairD) _ (hf (0, 42) _ (by simp) rfl)
  change (xs.drop 0).take 1 = _ at e0
  obtain ⟨x1, e1, k1⟩ := (typR_l (t := 42) rfl rfl typR_PairD) _ (hf (1, 42) _ (by simp) rfl)
  change (xs.drop 1).take 1 = _ at e1
  obtain ⟨x2, e2, k2⟩ := typR_RefD _ (hf (2, 46) _ (by simp) rfl)
  change (xs.drop 2).take 2 = _ at e2
  obtain ⟨x3, e3, k3⟩ := (typR_i .u64 (t := 23) rfl rfl) _ (hf (4, 23) _ (by simp) rfl)
  change (xs.drop 4).take 1 = _ at e3
  obtain ⟨x4, e4, k4⟩ := (typR_i .u64 (t := 23) rfl rfl) _ (hf (5, 23) _ (by simp) rfl)
  change (xs.drop 5).take 1 = _ at e4
  have hx := cuts_eq xs [1, 1, 2, 1, 1] 0 hl
  have hy : cuts xs 0 [1, 1, 2, 1, 1] = (xs.drop 0).take 1 ++ ((xs.drop 1).take 1 ++ ((xs.drop 2).take 2 ++ ((xs.drop 4).take 1 ++ ((xs.drop 5).take 1 ++ [])))) := rfl
  rw [List.drop_zero, hy, e0, e1, e2, e3, e4] at hx
  exact ⟨⟨x0, x1, x2, x3, x4⟩, hx, ⟨k0, k1, k2, k3, k4⟩⟩
structure ObjectD.Ok (x : ObjectD) : Prop where
  Id : (OkI .u64) x.Id
  Kind : (OkI .i64) x.Kind
  Label : (OkL PairD.Ok) x.Label
  Quota : (OkI .i64) x.Quota
  Fixed : OkT x.Fixed
  Links : (OkL (OkI .u64)) x.Links
  Data : (OkL (OkI .u64)) x.Data
  Maps : (OkL MapD.Ok) x.Maps
  Thread : ThreadD.Ok x.Thread
  Gate : GateD.Ok x.Gate
  In : (OkL (OkI .u64)) x.In
  Out : (OkL (OkI .u64)) x.Out
theorem typR_ObjectD : TypR 57 encObjectD ObjectD.Ok := fun xs h => by
  obtain ⟨hl, hf⟩ := typ_struct h rfl rfl
  obtain ⟨x0, e0, k0⟩ := (typR_i .u64 (t := 23) rfl rfl) _ (hf (0, 23) _ (by simp) rfl)
  change (xs.drop 0).take 1 = _ at e0
  obtain ⟨x1, e1, k1⟩ := (typR_i .i64 (t := 3) rfl rfl) _ (hf (1, 3) _ (by simp) rfl)
  change (xs.drop 1).take 1 = _ at e1
  obtain ⟨x2, e2, k2⟩ := (typR_l (t := 42) rfl rfl typR_PairD) _ (hf (2, 42) _ (by simp) rfl)
  change (xs.drop 2).take 1 = _ at e2
  obtain ⟨x3, e3, k3⟩ := (typR_i .i64 (t := 3) rfl rfl) _ (hf (3, 3) _ (by simp) rfl)
  change (xs.drop 3).take 1 = _ at e3
  obtain ⟨x4, e4, k4⟩ := (typR_b (t := 4) rfl rfl) _ (hf (4, 4) _ (by simp) rfl)
  change (xs.drop 4).take 1 = _ at e4
  obtain ⟨x5, e5, k5⟩ := (typR_l (t := 43) rfl rfl (typR_i .u64 (t := 23) rfl rfl)) _ (hf (5, 43) _ (by simp) rfl)
  change (xs.drop 5).take 1 = _ at e5
  obtain ⟨x6, e6, k6⟩ := (typR_l (t := 43) rfl rfl (typR_i .u64 (t := 23) rfl rfl)) _ (hf (6, 43) _ (by simp) rfl)
  change (xs.drop 6).take 1 = _ at e6
  obtain ⟨x7, e7, k7⟩ := (typR_l (t := 22) rfl rfl typR_MapD) _ (hf (7, 22) _ (by simp) rfl)
  change (xs.drop 7).take 1 = _ at e7
  obtain ⟨x8, e8, k8⟩ := typR_ThreadD _ (hf (8, 53) _ (by simp) rfl)
  change (xs.drop 8).take 35 = _ at e8
  obtain ⟨x9, e9, k9⟩ := typR_GateD _ (hf (43, 55) _ (by simp) rfl)
  change (xs.drop 43).take 6 = _ at e9
  obtain ⟨x10, e10, k10⟩ := (typR_l (t := 43) rfl rfl (typR_i .u64 (t := 23) rfl rfl)) _ (hf (49, 43) _ (by simp) rfl)
  change (xs.drop 49).take 1 = _ at e10
  obtain ⟨x11, e11, k11⟩ := (typR_l (t := 43) rfl rfl (typR_i .u64 (t := 23) rfl rfl)) _ (hf (50, 43) _ (by simp) rfl)
  change (xs.drop 50).take 1 = _ at e11
  have hx := cuts_eq xs [1, 1, 1, 1, 1, 1, 1, 1, 35, 6, 1, 1] 0 hl
  have hy : cuts xs 0 [1, 1, 1, 1, 1, 1, 1, 1, 35, 6, 1, 1] = (xs.drop 0).take 1 ++ ((xs.drop 1).take 1 ++ ((xs.drop 2).take 1 ++ ((xs.drop 3).take 1 ++ ((xs.drop 4).take 1 ++ ((xs.drop 5).take 1 ++ ((xs.drop 6).take 1 ++ ((xs.drop 7).take 1 ++ ((xs.drop 8).take 35 ++ ((xs.drop 43).take 6 ++ ((xs.drop 49).take 1 ++ ((xs.drop 50).take 1 ++ []))))))))))) := rfl
  rw [List.drop_zero, hy, e0, e1, e2, e3, e4, e5, e6, e7, e8, e9, e10, e11] at hx
  exact ⟨⟨x0, x1, x2, x3, x4, x5, x6, x7, x8, x9, x10, x11⟩, hx, ⟨k0, k1, k2, k3, k4, k5, k6, k7, k8, k9, k10, k11⟩⟩
structure WorldD.Ok (x : WorldD) : Prop where
  Time : (OkI .i64) x.Time
  Key : (OkI .u64) x.Key
  Root : (OkI .u64) x.Root
  Objects : (OkL ObjectD.Ok) x.Objects
theorem typR_WorldD : TypR 60 encWorldD WorldD.Ok := fun xs h => by
  obtain ⟨hl, hf⟩ := typ_struct h rfl rfl
  obtain ⟨x0, e0, k0⟩ := (typR_i .i64 (t := 3) rfl rfl) _ (hf (0, 3) _ (by simp) rfl)
  change (xs.drop 0).take 1 = _ at e0
  obtain ⟨x1, e1, k1⟩ := (typR_i .u64 (t := 23) rfl rfl) _ (hf (1, 23) _ (by simp) rfl)
  change (xs.drop 1).take 1 = _ at e1
  obtain ⟨x2, e2, k2⟩ := (typR_i .u64 (t := 23) rfl rfl) _ (hf (2, 23) _ (by simp) rfl)
  change (xs.drop 2).take 1 = _ at e2
  obtain ⟨x3, e3, k3⟩ := (typR_l (t := 58) rfl rfl typR_ObjectD) _ (hf (3, 58) _ (by simp) rfl)
  change (xs.drop 3).take 1 = _ at e3
  have hx := cuts_eq xs [1, 1, 1, 1] 0 hl
  have hy : cuts xs 0 [1, 1, 1, 1] = (xs.drop 0).take 1 ++ ((xs.drop 1).take 1 ++ ((xs.drop 2).take 1 ++ ((xs.drop 3).take 1 ++ []))) := rfl
  rw [List.drop_zero, hy, e0, e1, e2, e3] at hx
  exact ⟨⟨x0, x1, x2, x3⟩, hx, ⟨k0, k1, k2, k3⟩⟩
end Go.Proofs.Ytpckfpahmnhfcaa.K
