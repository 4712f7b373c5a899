/- What functions of the program compute, as plain Lean. Printed by wip/gen/pwrun.py. -/
import Derived.Test.YtpckfpahmnhfcaaKD
namespace Go.Proofs.Ytpckfpahmnhfcaa.K
open Go Go.RowKit Go.Proofs.Ytpckfpahmnhfcaa.G
set_option linter.unusedVariables false
def level_Fit (n : Int) : Option (Bool) :=
  bif (decide (n ≥ (0 : Int))) then
    some (decide (n ≤ (5 : Int)))
  else
    some false

def level_of (n : Int) : Option (Int) :=
  Option.bind (level_Fit n) fun v1 =>
  bif v1 then
    some n
  else
    some (2 : Int)

def level_Leq (a : Int) (b : Int) : Option (Bool) :=
  Option.bind (level_of a) fun v1 =>
  Option.bind (level_of b) fun v2 =>
  some (decide (v1 ≤ v2))

def level_Raise (n : Int) : Option (Int) :=
  Option.bind (level_of n) fun v1 =>
  bif (v1 != (0 : Int)) then
    some v1
  else
    some (5 : Int)

def r01_Fit (n : Int) : Option (Bool) :=
  bif (decide (n ≥ (0 : Int))) then
    some (decide (n ≤ (5 : Int)))
  else
    some false

def r01_Of (n : Int) : Option (Int) :=
  Option.bind (α := Bool) (
    bif (decide (n < (0 : Int))) then
      some true
    else
      some (decide (n > (5 : Int)))) fun x1 =>
  bif x1 then
    some (2 : Int)
  else
    some n

def r01_Leq (a : Int) (b : Int) : Option (Bool) :=
  Option.bind (r01_Of a) fun v1 =>
  Option.bind (r01_Of b) fun v2 =>
  some (decide (v1 ≤ v2))

def r01_Raise (n : Int) : Option (Int) :=
  Option.bind (r01_Of n) fun v1 =>
  bif (v1 == (0 : Int)) then
    some (5 : Int)
  else
    Option.bind (r01_Of n) fun v3 =>
    some v3

def obj_named (id_ : Int) : Option (Bool) :=
  bif (decide (id_ > (0 : Int))) then
    some (decide (id_ ≤ (2305843009213693952 : Int)))
  else
    some false

def r13_id (n : Int) : Option (Bool) :=
  bif (decide (n ≥ (1 : Int))) then
    some (decide (n ≤ (2305843009213693952 : Int)))
  else
    some false

def serial_Fit (s : SpanD) : Option (Bool) :=
  bif (decide (s.Lo ≤ s.Hi)) then
    some (decide (s.Hi ≤ (2305843009213693952 : Int)))
  else
    some false

def r07_Fit (s : SpanD) : Option (Bool) :=
  bif (decide (s.Lo ≤ s.Hi)) then
    some (decide (s.Hi ≤ (2305843009213693952 : Int)))
  else
    some false

def r02_Get_L0 (l : List PairD) (cat : Int) (rec : (Int) → Option ((Int) ⊕ (Unit))) (x1 : Int) : Option ((Int) ⊕ (Unit)) :=
  bif (decide (x1 < (l.length : Int))) then
    Option.bind (idx l x1) fun x4 =>
    bif (x4.Cat == cat) then
      Option.bind (idx l x1) fun x6 =>
      some (Sum.inl x6.Lev)
    else
      rec (IntKind.i64.wrap (x1 + (1 : Int)))
  else
    some (Sum.inr ())

def r02_Get (l : List PairD) (cat : Int) : Option (Int) :=
  Option.bind (iter (r02_Get_L0 l cat) fuel0 (0 : Int)) fun y => match y with
  | (Sum.inl y2ret) =>
    some y2ret
  | (Sum.inr y2exit0) =>
    some (2 : Int)

def r02_Fit_L0 (l : List PairD) (rec : (Int) → Option ((Unit) ⊕ (Unit))) (x1 : Int) : Option ((Unit) ⊕ (Unit)) :=
  bif (decide (x1 < (l.length : Int))) then
    Option.bind (α := Bool) (
      Option.bind (idx l x1) fun x6 =>
      Option.bind (r01_Fit x6.Lev) fun v7 =>
      bif (!v7) then
        some true
      else
        Option.bind (idx l x1) fun x9 =>
        bif (x9.Lev == (2 : Int)) then
          some true
        else
          bif (decide (x1 > (0 : Int))) then
            Option.bind (idx l (IntKind.i64.wrap (x1 - (1 : Int)))) fun x12 =>
            Option.bind (idx l x1) fun x13 =>
            some (decide (x12.Cat ≥ x13.Cat))
          else
            some false) fun x4 =>
    bif x4 then
      some (Sum.inl ())
    else
      rec (IntKind.i64.wrap (x1 + (1 : Int)))
  else
    some (Sum.inr ())

def r02_Fit (l : List PairD) : Option (Bool) :=
  Option.bind (iter (r02_Fit_L0 l) fuel0 (0 : Int)) fun y => match y with
  | (Sum.inl y2ret) =>
    some false
  | (Sum.inr y2exit0) =>
    some true

def r02_Same_L0 (a : List PairD) (b : List PairD) (rec : (Int) → Option ((Unit) ⊕ (Unit))) (x2 : Int) : Option ((Unit) ⊕ (Unit)) :=
  bif (decide (x2 < (a.length : Int))) then
    Option.bind (idx a x2) fun x5 =>
    Option.bind (idx b x2) fun x6 =>
    bif (!((x5.Cat == x6.Cat) && ((x5.Lev == x6.Lev) && true))) then
      some (Sum.inl ())
    else
      rec (IntKind.i64.wrap (x2 + (1 : Int)))
  else
    some (Sum.inr ())

def r02_Same (a : List PairD) (b : List PairD) : Option (Bool) :=
  bif ((a.length : Int) != (b.length : Int)) then
    some false
  else
    Option.bind (iter (r02_Same_L0 a b) fuel0 (0 : Int)) fun y => match y with
    | (Sum.inl y3ret) =>
      some false
    | (Sum.inr y3exit0) =>
      some true

def r02_Cats_L0 (a : List Int) (b : List Int) (rec : (Int) → Option ((Unit) ⊕ (Unit))) (x2 : Int) : Option ((Unit) ⊕ (Unit)) :=
  bif (decide (x2 < (a.length : Int))) then
    Option.bind (idx a x2) fun x5 =>
    Option.bind (idx b x2) fun x6 =>
    bif (x5 != x6) then
      some (Sum.inl ())
    else
      rec (IntKind.i64.wrap (x2 + (1 : Int)))
  else
    some (Sum.inr ())

def r02_Cats (a : List Int) (b : List Int) : Option (Bool) :=
  bif ((a.length : Int) != (b.length : Int)) then
    some false
  else
    Option.bind (iter (r02_Cats_L0 a b) fuel0 (0 : Int)) fun y => match y with
    | (Sum.inl y3ret) =>
      some false
    | (Sum.inr y3exit0) =>
      some true

def r02_Owned_L0 (l : List PairD) (rec : (Int × List Int) → Option (List Int)) (x1 : Int × List Int) : Option (List Int) :=
  bif (decide (x1.1 < (l.length : Int))) then
    Option.bind (α := List Int) (
      Option.bind (idx l x1.1) fun x5 =>
      bif (x5.Lev == (0 : Int)) then
        Option.bind (idx l x1.1) fun x7 =>
        Option.bind (app 8 x1.2 [x7.Cat]) fun x8 =>
        some x8
      else
        some x1.2) fun x4 =>
    rec ((IntKind.i64.wrap (x1.1 + (1 : Int))), x4)
  else
    some x1.2

def r02_Owned (l : List PairD) : Option (List Int) :=
  Option.bind (iter (r02_Owned_L0 l) fuel0 ((0 : Int), [])) fun y2exit0 =>
  some y2exit0

def r02_Raise_L0 (l : List PairD) (rec : (Int × List PairD) → Option (List PairD)) (x1 : Int × List PairD) : Option (List PairD) :=
  bif (decide (x1.1 < (l.length : Int))) then
    Option.bind (idx l x1.1) fun x4 =>
    Option.bind (idx l x1.1) fun x5 =>
    Option.bind (r01_Raise x5.Lev) fun v6 =>
    Option.bind (app 16 x1.2 [(⟨x4.Cat, v6⟩ : PairD)]) fun x7 =>
    rec ((IntKind.i64.wrap (x1.1 + (1 : Int))), x7)
  else
    some x1.2

def r02_Raise (l : List PairD) : Option (List PairD) :=
  Option.bind (iter (r02_Raise_L0 l) fuel0 ((0 : Int), [])) fun y2exit0 =>
  some y2exit0

def r02_Leq_L0 (a : List PairD) (b : List PairD) (rec : (Int) → Option ((Unit) ⊕ (Unit))) (x1 : Int) : Option ((Unit) ⊕ (Unit)) :=
  bif (decide (x1 < (a.length : Int))) then
    Option.bind (idx a x1) fun x4 =>
    Option.bind (idx a x1) fun x5 =>
    Option.bind (r02_Get b x5.Cat) fun v6 =>
    Option.bind (r01_Leq x4.Lev v6) fun v7 =>
    bif (!v7) then
      some (Sum.inl ())
    else
      rec (IntKind.i64.wrap (x1 + (1 : Int)))
  else
    some (Sum.inr ())

def r02_Leq_L1 (a : List PairD) (b : List PairD) (rec : (Int) → Option ((Unit) ⊕ (Unit))) (x9 : Int) : Option ((Unit) ⊕ (Unit)) :=
  bif (decide (x9 < (b.length : Int))) then
    Option.bind (idx b x9) fun x12 =>
    Option.bind (r02_Get a x12.Cat) fun v13 =>
    Option.bind (idx b x9) fun x14 =>
    Option.bind (r01_Leq v13 x14.Lev) fun v15 =>
    bif (!v15) then
      some (Sum.inl ())
    else
      rec (IntKind.i64.wrap (x9 + (1 : Int)))
  else
    some (Sum.inr ())

def r02_Leq (a : List PairD) (b : List PairD) : Option (Bool) :=
  Option.bind (iter (r02_Leq_L0 a b) fuel0 (0 : Int)) fun y => match y with
  | (Sum.inl y2ret) =>
    some false
  | (Sum.inr y2exit0) =>
    Option.bind (iter (r02_Leq_L1 a b) fuel0 (0 : Int)) fun y => match y with
    | (Sum.inl y10ret) =>
      some false
    | (Sum.inr y10exit2) =>
      some true

def r12_Same_L0 (a : List MapD) (b : List MapD) (rec : (Int) → Option ((Unit) ⊕ (Unit))) (x2 : Int) : Option ((Unit) ⊕ (Unit)) :=
  bif (decide (x2 < (a.length : Int))) then
    Option.bind (idx a x2) fun x5 =>
    Option.bind (idx b x2) fun x6 =>
    bif (!((x5.Va == x6.Va) && ((x5.N == x6.N) && ((x5.Cont == x6.Cont) && ((x5.Seg == x6.Seg) && ((x5.Off == x6.Off) && ((x5.Write == x6.Write) && true))))))) then
      some (Sum.inl ())
    else
      rec (IntKind.i64.wrap (x2 + (1 : Int)))
  else
    some (Sum.inr ())

def r12_Same (a : List MapD) (b : List MapD) : Option (Bool) :=
  bif ((a.length : Int) != (b.length : Int)) then
    some false
  else
    Option.bind (iter (r12_Same_L0 a b) fuel0 (0 : Int)) fun y => match y with
    | (Sum.inl y3ret) =>
      some false
    | (Sum.inr y3exit0) =>
      some true

def r12_one (m : MapD) : Option (Bool) :=
  Option.bind (α := Bool) (
    bif (decide (m.Va ≥ (0 : Int))) then
      some (decide (m.Va < (1048576 : Int)))
    else
      some false) fun x2 =>
  Option.bind (α := Bool) (
    bif x2 then
      some (decide (m.Off ≥ (0 : Int)))
    else
      some false) fun x4 =>
  Option.bind (α := Bool) (
    bif x4 then
      some (decide (m.Off < (1048576 : Int)))
    else
      some false) fun x6 =>
  Option.bind (α := Bool) (
    bif x6 then
      some (decide (m.N ≥ (1 : Int)))
    else
      some false) fun x8 =>
  Option.bind (α := Bool) (
    bif x8 then
      some (decide (m.N ≤ (1048576 : Int)))
    else
      some false) fun x10 =>
  Option.bind (α := Bool) (
    bif x10 then
      some (decide (m.N ≤ (IntKind.i64.wrap ((1048576 : Int) - m.Va))))
    else
      some false) fun x12 =>
  bif x12 then
    some (decide (m.N ≤ (IntKind.i64.wrap ((1048576 : Int) - m.Off))))
  else
    some false

def r12_Fit_L0 (l : List MapD) (rec : (Int) → Option ((Unit) ⊕ (Unit))) (x2 : Int) : Option ((Unit) ⊕ (Unit)) :=
  bif (decide (x2 < (l.length : Int))) then
    Option.bind (α := Bool) (
      Option.bind (idx l x2) fun x7 =>
      Option.bind (r12_one x7) fun v8 =>
      bif (!v8) then
        some true
      else
        bif (decide (x2 > (0 : Int))) then
          Option.bind (idx l (IntKind.i64.wrap (x2 - (1 : Int)))) fun x11 =>
          Option.bind (idx l (IntKind.i64.wrap (x2 - (1 : Int)))) fun x12 =>
          Option.bind (idx l x2) fun x13 =>
          some (decide ((IntKind.i64.wrap (x11.Va + x12.N)) > x13.Va))
        else
          some false) fun x5 =>
    bif x5 then
      some (Sum.inl ())
    else
      rec (IntKind.i64.wrap (x2 + (1 : Int)))
  else
    some (Sum.inr ())

def r12_Fit (l : List MapD) : Option (Bool) :=
  bif (decide ((l.length : Int) > (16 : Int))) then
    some false
  else
    Option.bind (iter (r12_Fit_L0 l) fuel0 (0 : Int)) fun y => match y with
    | (Sum.inl y3ret) =>
      some false
    | (Sum.inr y3exit0) =>
      some true

def r13_SameThread_L0 (a : ThreadD) (b : ThreadD) (rec : (Int) → Option ((Unit) ⊕ (Unit))) (x1 : Int) : Option ((Unit) ⊕ (Unit)) :=
  bif (decide (x1 < (4 : Int))) then
    Option.bind (inr 4 x1) fun j4 =>
    Option.bind (inr 4 x1) fun j5 =>
    Option.bind (r02_Same (Arr4.get a.Labs j4) (Arr4.get b.Labs j5)) fun v6 =>
    bif (!v6) then
      some (Sum.inl ())
    else
      rec (IntKind.i64.wrap (x1 + (1 : Int)))
  else
    some (Sum.inr ())

def r13_SameThread (a : ThreadD) (b : ThreadD) : Option (Bool) :=
  Option.bind (iter (r13_SameThread_L0 a b) fuel0 (0 : Int)) fun y => match y with
  | (Sum.inl y2ret) =>
    some false
  | (Sum.inr y2exit0) =>
    Option.bind (α := Bool) (
      bif ((a.Regs.e0 == b.Regs.e0) && ((a.Regs.e1 == b.Regs.e1) && ((a.Regs.e2 == b.Regs.e2) && ((a.Regs.e3 == b.Regs.e3) && ((a.Regs.e4 == b.Regs.e4) && ((a.Regs.e5 == b.Regs.e5) && ((a.Regs.e6 == b.Regs.e6) && ((a.Regs.e7 == b.Regs.e7) && ((a.Regs.e8 == b.Regs.e8) && ((a.Regs.e9 == b.Regs.e9) && ((a.Regs.e10 == b.Regs.e10) && ((a.Regs.e11 == b.Regs.e11) && ((a.Regs.e12 == b.Regs.e12) && ((a.Regs.e13 == b.Regs.e13) && ((a.Regs.e14 == b.Regs.e14) && ((a.Regs.e15 == b.Regs.e15) && true)))))))))))))))) then
        some (a.Pc == b.Pc)
      else
        some false) fun x9 =>
    Option.bind (α := Bool) (
      bif x9 then
        Option.bind (r02_Same a.Clear b.Clear) fun v26 =>
        some v26
      else
        some false) fun x11 =>
    Option.bind (α := Bool) (
      bif x11 then
        some ((a.Space.Cont == b.Space.Cont) && ((a.Space.Id == b.Space.Id) && true))
      else
        some false) fun x13 =>
    Option.bind (α := Bool) (
      bif x13 then
        some (a.Handler == b.Handler)
      else
        some false) fun x15 =>
    Option.bind (α := Bool) (
      bif x15 then
        some (a.Vector == b.Vector)
      else
        some false) fun x17 =>
    Option.bind (α := Bool) (
      bif x17 then
        some (a.State == b.State)
      else
        some false) fun x19 =>
    Option.bind (α := Bool) (
      bif x19 then
        some (((a.Wait.Ref.Cont == b.Wait.Ref.Cont) && ((a.Wait.Ref.Id == b.Wait.Ref.Id) && true)) && ((a.Wait.Index == b.Wait.Index) && ((a.Wait.Val == b.Wait.Val) && ((a.Wait.Dev == b.Wait.Dev) && true))))
      else
        some false) fun x21 =>
    Option.bind (α := Bool) (
      bif x21 then
        Option.bind (r02_Cats a.Alerts b.Alerts) fun v25 =>
        some v25
      else
        some false) fun x23 =>
    bif x23 then
      some ((a.Span.Lo == b.Span.Lo) && ((a.Span.Hi == b.Span.Hi) && true))
    else
      some false

def r13_SameGate (a : GateD) (b : GateD) : Option (Bool) :=
  Option.bind (r02_Same a.Grant b.Grant) fun v1 =>
  Option.bind (α := Bool) (
    bif v1 then
      Option.bind (r02_Same a.Clear b.Clear) fun v9 =>
      some v9
    else
      some false) fun x3 =>
  Option.bind (α := Bool) (
    bif x3 then
      some ((a.Space.Cont == b.Space.Cont) && ((a.Space.Id == b.Space.Id) && true))
    else
      some false) fun x5 =>
  Option.bind (α := Bool) (
    bif x5 then
      some (a.Pc == b.Pc)
    else
      some false) fun x7 =>
  bif x7 then
    some (a.Arg == b.Arg)
  else
    some false

def r13_SameOne (a : ObjectD) (b : ObjectD) : Option (Bool) :=
  Option.bind (α := Bool) (
    Option.bind (α := Bool) (
      bif (a.Id != b.Id) then
        some true
      else
        some (a.Kind != b.Kind)) fun x22 =>
    Option.bind (α := Bool) (
      bif x22 then
        some true
      else
        Option.bind (r02_Same a.Label b.Label) fun v28 =>
        some (!v28)) fun x24 =>
    Option.bind (α := Bool) (
      bif x24 then
        some true
      else
        some (a.Quota != b.Quota)) fun x26 =>
    bif x26 then
      some true
    else
      some (!(a.Fixed == b.Fixed))) fun x1 =>
  bif x1 then
    some false
  else
    Option.bind (r02_Cats a.Links b.Links) fun v3 =>
    Option.bind (α := Bool) (
      bif v3 then
        Option.bind (r02_Cats a.Data b.Data) fun v20 =>
        some v20
      else
        some false) fun x5 =>
    Option.bind (α := Bool) (
      bif x5 then
        Option.bind (r12_Same a.Maps b.Maps) fun v19 =>
        some v19
      else
        some false) fun x7 =>
    Option.bind (α := Bool) (
      bif x7 then
        Option.bind (r13_SameThread a.Thread b.Thread) fun v18 =>
        some v18
      else
        some false) fun x9 =>
    Option.bind (α := Bool) (
      bif x9 then
        Option.bind (r13_SameGate a.Gate b.Gate) fun v17 =>
        some v17
      else
        some false) fun x11 =>
    Option.bind (α := Bool) (
      bif x11 then
        Option.bind (r02_Cats a.In b.In) fun v16 =>
        some v16
      else
        some false) fun x13 =>
    bif x13 then
      Option.bind (r02_Cats a.Out b.Out) fun v15 =>
      some v15
    else
      some false

def r13_Same_L0 (a : WorldD) (b : WorldD) (rec : (Int) → Option ((Unit) ⊕ (Unit))) (x3 : Int) : Option ((Unit) ⊕ (Unit)) :=
  bif (decide (x3 < (a.Objects.length : Int))) then
    Option.bind (idx a.Objects x3) fun x6 =>
    Option.bind (idx b.Objects x3) fun x7 =>
    Option.bind (r13_SameOne x6 x7) fun v8 =>
    bif (!v8) then
      some (Sum.inl ())
    else
      rec (IntKind.i64.wrap (x3 + (1 : Int)))
  else
    some (Sum.inr ())

def r13_Same (a : WorldD) (b : WorldD) : Option (Bool) :=
  Option.bind (α := Bool) (
    Option.bind (α := Bool) (
      bif (a.Time != b.Time) then
        some true
      else
        some (a.Key != b.Key)) fun x11 =>
    Option.bind (α := Bool) (
      bif x11 then
        some true
      else
        some (a.Root != b.Root)) fun x13 =>
    bif x13 then
      some true
    else
      some ((a.Objects.length : Int) != (b.Objects.length : Int))) fun x1 =>
  bif x1 then
    some false
  else
    Option.bind (iter (r13_Same_L0 a b) fuel0 (0 : Int)) fun y => match y with
    | (Sum.inl y4ret) =>
      some false
    | (Sum.inr y4exit0) =>
      some true

end Go.Proofs.Ytpckfpahmnhfcaa.K
