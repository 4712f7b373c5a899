/- What functions of the program compute, as plain Lean. Printed by wip/gen/pwrun.py. -/
import Derived.Test.YtpckfpahmnhfcaaKAF
namespace Go.Proofs.Ytpckfpahmnhfcaa.K
open Go Go.RowKit Go.Proofs.Ytpckfpahmnhfcaa.G
set_option linter.unusedVariables false
def r13_Kept_L0 (l : List PairD) (rec : (Int) → Option ((Unit) ⊕ (Unit))) (x1 : Int) : Option ((Unit) ⊕ (Unit)) :=
  bif (decide (x1 < (l.length : Int))) then
    Option.bind (idx l x1) fun x4 =>
    bif (x4.Lev == (5 : Int)) then
      some (Sum.inl ())
    else
      rec (IntKind.i64.wrap (x1 + (1 : Int)))
  else
    some (Sum.inr ())

def r13_Kept (l : List PairD) : Option (Bool) :=
  Option.bind (iter (r13_Kept_L0 l) fuel0 (0 : Int)) fun y => match y with
  | (Sum.inl y2ret) =>
    some false
  | (Sum.inr y2exit0) =>
    bif (decide ((l.length : Int) ≤ (16 : Int))) then
      Option.bind (r02_Fit l) fun v7 =>
      some v7
    else
      some false

def r13_alone (o : ObjectD) : Option (Bool) :=
  bif (o.Kind == (1 : Int)) then
    Option.bind (r13_SameOne ({ o with Links := [], Maps := [], Thread := ThreadD.zero, Gate := GateD.zero, In := [], Out := [] } : ObjectD) o) fun v2 =>
    some v2
  else
    bif (o.Kind == (2 : Int)) then
      Option.bind (r13_SameOne ({ o with Data := [], Maps := [], Thread := ThreadD.zero, Gate := GateD.zero, In := [], Out := [] } : ObjectD) o) fun v4 =>
      some v4
    else
      bif (o.Kind == (3 : Int)) then
        Option.bind (r13_SameOne ({ o with Links := [], Data := [], Thread := ThreadD.zero, Gate := GateD.zero, In := [], Out := [] } : ObjectD) o) fun v6 =>
        some v6
      else
        bif (o.Kind == (4 : Int)) then
          Option.bind (r13_SameOne ({ o with Links := [], Data := [], Maps := [], Gate := GateD.zero, In := [], Out := [] } : ObjectD) o) fun v8 =>
          some v8
        else
          bif (o.Kind == (5 : Int)) then
            Option.bind (r13_SameOne ({ o with Links := [], Data := [], Maps := [], Thread := ThreadD.zero, In := [], Out := [] } : ObjectD) o) fun v10 =>
            some v10
          else
            bif (o.Kind == (6 : Int)) then
              Option.bind (r13_SameOne ({ o with Links := [], Data := [], Maps := [], Thread := ThreadD.zero, Gate := GateD.zero } : ObjectD) o) fun v12 =>
              some v12
            else
              Option.bind (r13_SameOne ({ ObjectD.zero with Id := o.Id, Kind := o.Kind, Label := o.Label, Quota := o.Quota, Fixed := o.Fixed } : ObjectD) o) fun v13 =>
              some v13

def r13_rising_L0 (l : List Int) (rec : (Int) → Option ((Unit) ⊕ (Unit))) (x1 : Int) : Option ((Unit) ⊕ (Unit)) :=
  bif (decide (x1 < (l.length : Int))) then
    Option.bind (α := Bool) (
      Option.bind (idx l x1) fun x6 =>
      Option.bind (r13_id x6) fun v7 =>
      bif (!v7) then
        some true
      else
        bif (decide (x1 > (0 : Int))) then
          Option.bind (idx l (IntKind.i64.wrap (x1 - (1 : Int)))) fun x10 =>
          Option.bind (idx l x1) fun x11 =>
          some (decide (x10 ≥ x11))
        else
          some false) fun x4 =>
    bif x4 then
      some (Sum.inl ())
    else
      rec (IntKind.i64.wrap (x1 + (1 : Int)))
  else
    some (Sum.inr ())

def r13_rising (l : List Int) : Option (Bool) :=
  Option.bind (iter (r13_rising_L0 l) fuel0 (0 : Int)) fun y => match y with
  | (Sum.inl y2ret) =>
    some false
  | (Sum.inr y2exit0) =>
    some true

def r13_thread_L0 (t : ThreadD) (rec : (Int) → Option ((Unit) ⊕ (Unit))) (x1 : Int) : Option ((Unit) ⊕ (Unit)) :=
  bif (decide (x1 < (4 : Int))) then
    Option.bind (inr 4 x1) fun j4 =>
    Option.bind (r13_Kept (Arr4.get t.Labs j4)) fun v5 =>
    bif (!v5) then
      some (Sum.inl ())
    else
      rec (IntKind.i64.wrap (x1 + (1 : Int)))
  else
    some (Sum.inr ())

def r13_thread (l : List PairD) (t : ThreadD) : Option (Bool) :=
  Option.bind (iter (r13_thread_L0 t) fuel0 (0 : Int)) fun y => match y with
  | (Sum.inl y2ret) =>
    some false
  | (Sum.inr y2exit0) =>
    Option.bind (α := Bool) (
      bif (t.State != (1 : Int)) then
        some (!(((t.Wait.Ref.Cont == (0 : Int)) && ((t.Wait.Ref.Id == (0 : Int)) && true)) && ((t.Wait.Index == (0 : Int)) && ((t.Wait.Val == (0 : Int)) && ((t.Wait.Dev == false) && true)))))
      else
        some false) fun x7 =>
    bif x7 then
      some false
    else
      Option.bind (r13_Kept t.Clear) fun v9 =>
      Option.bind (α := Bool) (
        bif v9 then
          Option.bind (r02_Leq l t.Clear) fun v20 =>
          some v20
        else
          some false) fun x11 =>
      Option.bind (α := Bool) (
        bif x11 then
          some (decide (t.State ≥ (0 : Int)))
        else
          some false) fun x13 =>
      Option.bind (α := Bool) (
        bif x13 then
          some (decide (t.State ≤ (2 : Int)))
        else
          some false) fun x15 =>
      Option.bind (α := Bool) (
        bif x15 then
          some (decide ((t.Alerts.length : Int) ≤ (8 : Int)))
        else
          some false) fun x17 =>
      bif x17 then
        Option.bind (r07_Fit t.Span) fun v19 =>
        some v19
      else
        some false

def r13_Sound (o : ObjectD) : Option (Bool) :=
  Option.bind (α := Bool) (
    Option.bind (r13_id o.Id) fun v24 =>
    Option.bind (α := Bool) (
      bif (!v24) then
        some true
      else
        some (decide (o.Kind < (1 : Int)))) fun x26 =>
    Option.bind (α := Bool) (
      bif x26 then
        some true
      else
        some (decide (o.Kind > (6 : Int)))) fun x28 =>
    Option.bind (α := Bool) (
      bif x28 then
        some true
      else
        Option.bind (r13_Kept o.Label) fun v37 =>
        some (!v37)) fun x30 =>
    Option.bind (α := Bool) (
      bif x30 then
        some true
      else
        some (decide (o.Quota < (1 : Int)))) fun x32 =>
    Option.bind (α := Bool) (
      bif x32 then
        some true
      else
        some (decide (o.Quota > (4096 : Int)))) fun x34 =>
    bif x34 then
      some true
    else
      Option.bind (r13_alone o) fun v36 =>
      some (!v36)) fun x1 =>
  bif x1 then
    some false
  else
    Option.bind (α := Bool) (
      bif (o.Kind != (4 : Int)) then
        Option.bind (r02_Owned o.Label) fun v23 =>
        some (decide ((v23.length : Int) > (0 : Int)))
      else
        some false) fun x3 =>
    bif x3 then
      some false
    else
      bif (o.Kind == (1 : Int)) then
        some (decide ((o.Data.length : Int) ≤ (IntKind.i64.wrap ((16 : Int) * (IntKind.i64.wrap (o.Quota - (1 : Int)))))))
      else
        bif (o.Kind == (2 : Int)) then
          bif (decide ((o.Links.length : Int) ≤ (64 : Int))) then
            Option.bind (r13_rising o.Links) fun v8 =>
            some v8
          else
            some false
        else
          bif (o.Kind == (3 : Int)) then
            Option.bind (r12_Fit o.Maps) fun v10 =>
            some v10
          else
            bif (o.Kind == (4 : Int)) then
              Option.bind (r13_thread o.Label o.Thread) fun v12 =>
              bif v12 then
                some (!o.Fixed)
              else
                some false
            else
              bif (o.Kind == (5 : Int)) then
                Option.bind (r13_Kept o.Gate.Grant) fun v15 =>
                Option.bind (α := Bool) (
                  bif v15 then
                    Option.bind (r13_Kept o.Gate.Clear) fun v20 =>
                    some v20
                  else
                    some false) fun x17 =>
                bif x17 then
                  Option.bind (r02_Leq o.Gate.Grant o.Gate.Clear) fun v19 =>
                  some v19
                else
                  some false
              else
                bif (decide ((o.In.length : Int) ≤ (64 : Int))) then
                  some (decide ((o.Out.length : Int) ≤ (1024 : Int)))
                else
                  some false

def r13_FitLabel (l : List PairD) : Option (Bool) :=
  Option.bind (r02_Fit l) fun v1 =>
  some v1

def slices_Equal_Label_L0 (s1 : List PairD) (s2 : List PairD) (rec : (Int) → Option ((Unit) ⊕ (Unit))) (x2 : Int) : Option ((Unit) ⊕ (Unit)) :=
  bif (decide (x2 < (s1.length : Int))) then
    Option.bind (idx s1 x2) fun x5 =>
    Option.bind (idx s2 x2) fun x6 =>
    bif (!((x5.Cat == x6.Cat) && ((x5.Lev == x6.Lev) && true))) then
      some (Sum.inl ())
    else
      rec (IntKind.i64.wrap (x2 + (1 : Int)))
  else
    some (Sum.inr ())

def slices_Equal_Label (s1 : List PairD) (s2 : List PairD) : Option (Bool) :=
  bif ((s1.length : Int) != (s2.length : Int)) then
    some false
  else
    Option.bind (iter (slices_Equal_Label_L0 s1 s2) fuel0 (0 : Int)) fun y => match y with
    | (Sum.inl y3ret) =>
      some false
    | (Sum.inr y3exit0) =>
      some true

def slices_Equal_u64_L0 (s1 : List Int) (s2 : List Int) (rec : (Int) → Option ((Unit) ⊕ (Unit))) (x2 : Int) : Option ((Unit) ⊕ (Unit)) :=
  bif (decide (x2 < (s1.length : Int))) then
    Option.bind (idx s1 x2) fun x5 =>
    Option.bind (idx s2 x2) fun x6 =>
    bif (x5 != x6) then
      some (Sum.inl ())
    else
      rec (IntKind.i64.wrap (x2 + (1 : Int)))
  else
    some (Sum.inr ())

def slices_Equal_u64 (s1 : List Int) (s2 : List Int) : Option (Bool) :=
  bif ((s1.length : Int) != (s2.length : Int)) then
    some false
  else
    Option.bind (iter (slices_Equal_u64_L0 s1 s2) fuel0 (0 : Int)) fun y => match y with
    | (Sum.inl y3ret) =>
      some false
    | (Sum.inr y3exit0) =>
      some true

def slices_Equal_Map_L0 (s1 : List MapD) (s2 : List MapD) (rec : (Int) → Option ((Unit) ⊕ (Unit))) (x2 : Int) : Option ((Unit) ⊕ (Unit)) :=
  bif (decide (x2 < (s1.length : Int))) then
    Option.bind (idx s1 x2) fun x5 =>
    Option.bind (idx s2 x2) fun x6 =>
    bif (!((x5.Va == x6.Va) && ((x5.N == x6.N) && ((x5.Cont == x6.Cont) && ((x5.Seg == x6.Seg) && ((x5.Off == x6.Off) && ((x5.Write == x6.Write) && true))))))) then
      some (Sum.inl ())
    else
      rec (IntKind.i64.wrap (x2 + (1 : Int)))
  else
    some (Sum.inr ())

def slices_Equal_Map (s1 : List MapD) (s2 : List MapD) : Option (Bool) :=
  bif ((s1.length : Int) != (s2.length : Int)) then
    some false
  else
    Option.bind (iter (slices_Equal_Map_L0 s1 s2) fuel0 (0 : Int)) fun y => match y with
    | (Sum.inl y3ret) =>
      some false
    | (Sum.inr y3exit0) =>
      some true

def label_Same (a : List PairD) (b : List PairD) : Option (Bool) :=
  Option.bind (slices_Equal_Label a b) fun v1 =>
  some v1

def pages_Same (a : List MapD) (b : List MapD) : Option (Bool) :=
  Option.bind (slices_Equal_Map a b) fun v1 =>
  some v1

def obj_sameThread_L0 (a : ThreadD) (b : ThreadD) (rec : (Int) → Option ((Unit) ⊕ (Unit))) (x1 : Int) : Option ((Unit) ⊕ (Unit)) :=
  bif (decide (x1 < (4 : Int))) then
    Option.bind (inr 4 x1) fun j4 =>
    Option.bind (inr 4 x1) fun j5 =>
    Option.bind (label_Same (Arr4.get a.Labs j4) (Arr4.get b.Labs j5)) fun v6 =>
    bif (!v6) then
      some (Sum.inl ())
    else
      rec (IntKind.i64.wrap (x1 + (1 : Int)))
  else
    some (Sum.inr ())

def obj_sameThread (a : ThreadD) (b : ThreadD) : Option (Bool) :=
  Option.bind (iter (obj_sameThread_L0 a b) fuel0 (0 : Int)) fun y => match y with
  | (Sum.inl y2ret) =>
    some false
  | (Sum.inr y2exit0) =>
    Option.bind (α := Bool) (
      Option.bind (α := Bool) (
        bif ((a.Regs.e0 == b.Regs.e0) && ((a.Regs.e1 == b.Regs.e1) && ((a.Regs.e2 == b.Regs.e2) && ((a.Regs.e3 == b.Regs.e3) && ((a.Regs.e4 == b.Regs.e4) && ((a.Regs.e5 == b.Regs.e5) && ((a.Regs.e6 == b.Regs.e6) && ((a.Regs.e7 == b.Regs.e7) && ((a.Regs.e8 == b.Regs.e8) && ((a.Regs.e9 == b.Regs.e9) && ((a.Regs.e10 == b.Regs.e10) && ((a.Regs.e11 == b.Regs.e11) && ((a.Regs.e12 == b.Regs.e12) && ((a.Regs.e13 == b.Regs.e13) && ((a.Regs.e14 == b.Regs.e14) && ((a.Regs.e15 == b.Regs.e15) && true)))))))))))))))) then
          some (a.Pc == b.Pc)
        else
          some false) fun x21 =>
      Option.bind (α := Bool) (
        bif x21 then
          some ((a.Space.Cont == b.Space.Cont) && ((a.Space.Id == b.Space.Id) && true))
        else
          some false) fun x23 =>
      Option.bind (α := Bool) (
        bif x23 then
          some (a.Handler == b.Handler)
        else
          some false) fun x25 =>
      bif x25 then
        some (a.Vector == b.Vector)
      else
        some false) fun x8 =>
    Option.bind (α := Bool) (
      bif x8 then
        some (a.State == b.State)
      else
        some false) fun x10 =>
    Option.bind (α := Bool) (
      bif x10 then
        some (((a.Wait.Ref.Cont == b.Wait.Ref.Cont) && ((a.Wait.Ref.Id == b.Wait.Ref.Id) && true)) && ((a.Wait.Index == b.Wait.Index) && ((a.Wait.Val == b.Wait.Val) && ((a.Wait.Dev == b.Wait.Dev) && true))))
      else
        some false) fun x12 =>
    Option.bind (α := Bool) (
      bif x12 then
        some ((a.Span.Lo == b.Span.Lo) && ((a.Span.Hi == b.Span.Hi) && true))
      else
        some false) fun x14 =>
    Option.bind (α := Bool) (
      bif x14 then
        Option.bind (label_Same a.Clear b.Clear) fun v19 =>
        some v19
      else
        some false) fun x16 =>
    bif x16 then
      Option.bind (slices_Equal_u64 a.Alerts b.Alerts) fun v18 =>
      some v18
    else
      some false

def obj_sameGate (a : GateD) (b : GateD) : Option (Bool) :=
  Option.bind (label_Same a.Grant b.Grant) fun v1 =>
  Option.bind (α := Bool) (
    bif v1 then
      Option.bind (label_Same a.Clear b.Clear) fun v9 =>
      some v9
    else
      some false) fun x3 =>
  Option.bind (α := Bool) (
    bif x3 then
      some ((a.Space.Cont == b.Space.Cont) && ((a.Space.Id == b.Space.Id) && true))
    else
      some false) fun x5 =>
  Option.bind (α := Bool) (
    bif x5 then
      some (a.Pc == b.Pc)
    else
      some false) fun x7 =>
  bif x7 then
    some (a.Arg == b.Arg)
  else
    some false

def obj_SameOne (a : ObjectD) (b : ObjectD) : Option (Bool) :=
  Option.bind (α := Bool) (
    Option.bind (α := Bool) (
      bif (a.Id == b.Id) then
        some (a.Kind == b.Kind)
      else
        some false) fun x23 =>
    Option.bind (α := Bool) (
      bif x23 then
        some (a.Quota == b.Quota)
      else
        some false) fun x25 =>
    Option.bind (α := Bool) (
      bif x25 then
        some (a.Fixed == b.Fixed)
      else
        some false) fun x27 =>
    bif x27 then
      Option.bind (label_Same a.Label b.Label) fun v29 =>
      some v29
    else
      some false) fun x1 =>
  Option.bind (α := Bool) (
    Option.bind (slices_Equal_u64 a.Links b.Links) fun v13 =>
    Option.bind (α := Bool) (
      bif v13 then
        Option.bind (slices_Equal_u64 a.Data b.Data) fun v21 =>
        some v21
      else
        some false) fun x15 =>
    Option.bind (α := Bool) (
      bif x15 then
        Option.bind (slices_Equal_u64 a.In b.In) fun v20 =>
        some v20
      else
        some false) fun x17 =>
    bif x17 then
      Option.bind (slices_Equal_u64 a.Out b.Out) fun v19 =>
      some v19
    else
      some false) fun x2 =>
  Option.bind (α := Bool) (
    bif x1 then
      some x2
    else
      some false) fun x4 =>
  Option.bind (α := Bool) (
    bif x4 then
      Option.bind (pages_Same a.Maps b.Maps) fun v12 =>
      some v12
    else
      some false) fun x6 =>
  Option.bind (α := Bool) (
    bif x6 then
      Option.bind (obj_sameThread a.Thread b.Thread) fun v11 =>
      some v11
    else
      some false) fun x8 =>
  bif x8 then
    Option.bind (obj_sameGate a.Gate b.Gate) fun v10 =>
    some v10
  else
    some false

def label_Fit_L0 (l : List PairD) (rec : (Int) → Option ((Unit) ⊕ (Unit))) (x1 : Int) : Option ((Unit) ⊕ (Unit)) :=
  bif (decide (x1 < (l.length : Int))) then
    Option.bind (idx l x1) fun x4 =>
    Option.bind (α := Bool) (
      Option.bind (level_Fit x4.Lev) fun v7 =>
      bif (!v7) then
        some true
      else
        bif (x4.Lev == (2 : Int)) then
          some true
        else
          bif (decide (x1 > (0 : Int))) then
            Option.bind (idx l (IntKind.i64.wrap (x1 - (1 : Int)))) fun x11 =>
            some (decide (x11.Cat ≥ x4.Cat))
          else
            some false) fun x5 =>
    bif x5 then
      some (Sum.inl ())
    else
      rec (IntKind.i64.wrap (x1 + (1 : Int)))
  else
    some (Sum.inr ())

def label_Fit (l : List PairD) : Option (Bool) :=
  Option.bind (iter (label_Fit_L0 l) fuel0 (0 : Int)) fun y => match y with
  | (Sum.inl y2ret) =>
    some false
  | (Sum.inr y2exit0) =>
    some true

def obj_kept_L0 (l : List PairD) (rec : (Int) → Option ((Int) ⊕ (Unit))) (x6 : Int) : Option ((Int) ⊕ (Unit)) :=
  bif (decide (x6 < (l.length : Int))) then
    Option.bind (idx l x6) fun x9 =>
    bif (x9.Lev == (5 : Int)) then
      some (Sum.inl x6)
    else
      rec (IntKind.i64.wrap (x6 + (1 : Int)))
  else
    some (Sum.inr ())

def obj_kept (l : List PairD) : Option (Bool) :=
  Option.bind (label_Fit l) fun v1 =>
  Option.bind (α := Bool) (
    bif v1 then
      some (decide ((l.length : Int) ≤ (16 : Int)))
    else
      some false) fun x3 =>
  bif x3 then
    Option.bind (α := Int) (
      Option.bind (iter (obj_kept_L0 l) fuel0 (0 : Int)) fun y => match y with
      | (Sum.inl y7ret) =>
        some y7ret
      | (Sum.inr y7exit0) =>
        some (-1 : Int)) fun x5 =>
    some (!(decide (x5 ≥ (0 : Int))))
  else
    some false

def label_Owned_L0 (l : List PairD) (rec : (Int × List Int) → Option (List Int)) (x1 : Int × List Int) : Option (List Int) :=
  bif (decide (x1.1 < (l.length : Int))) then
    Option.bind (α := List Int) (
      Option.bind (idx l x1.1) fun x5 =>
      bif (x5.Lev == (0 : Int)) then
        Option.bind (app 8 x1.2 [x5.Cat]) fun x7 =>
        some x7
      else
        some x1.2) fun x4 =>
    rec ((IntKind.i64.wrap (x1.1 + (1 : Int))), x4)
  else
    some x1.2

def label_Owned (l : List PairD) : Option (List Int) :=
  Option.bind (iter (label_Owned_L0 l) fuel0 ((0 : Int), [])) fun y2exit0 =>
  some y2exit0

def obj_bare (o : ObjectD) : Option (ObjectD) :=
  bif (o.Kind == (1 : Int)) then
    some ({ o with Data := [] } : ObjectD)
  else
    bif (o.Kind == (2 : Int)) then
      some ({ o with Links := [] } : ObjectD)
    else
      bif (o.Kind == (3 : Int)) then
        some ({ o with Maps := [] } : ObjectD)
      else
        bif (o.Kind == (4 : Int)) then
          some ({ o with Thread := ThreadD.zero } : ObjectD)
        else
          bif (o.Kind == (5 : Int)) then
            some ({ o with Gate := GateD.zero } : ObjectD)
          else
            bif (o.Kind == (6 : Int)) then
              some ({ o with In := [], Out := [] } : ObjectD)
            else
              some o

end Go.Proofs.Ytpckfpahmnhfcaa.K
