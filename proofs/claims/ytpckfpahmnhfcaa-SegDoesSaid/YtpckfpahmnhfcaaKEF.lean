/- What functions of the program compute, as plain Lean. Printed by wip/gen/pwrun.py. -/
import Derived.Test.YtpckfpahmnhfcaaKCF
import Derived.Test.YtpckfpahmnhfcaaKS
namespace Go.Proofs.Ytpckfpahmnhfcaa.K
open Go Go.RowKit Go.Proofs.Ytpckfpahmnhfcaa.G
set_option linter.unusedVariables false
def obj_inner (o : ObjectD) : Option (Bool) :=
  bif (o.Kind == (1 : Int)) then
    some (decide ((o.Data.length : Int) ≤ (IntKind.i64.wrap ((IntKind.i64.wrap (o.Quota - (1 : Int))) * (16 : Int)))))
  else
    bif (o.Kind == (2 : Int)) then
      none
    else
      bif (o.Kind == (3 : Int)) then
        none
      else
        bif (o.Kind == (4 : Int)) then
          none
        else
          bif (o.Kind == (5 : Int)) then
            none
          else
            none

def obj_Sound (o : ObjectD) : Option (Bool) :=
  Option.bind (α := Bool) (
    Option.bind (obj_named o.Id) fun v17 =>
    Option.bind (α := Bool) (
      bif (!v17) then
        some true
      else
        some (decide (o.Kind < (1 : Int)))) fun x19 =>
    bif x19 then
      some true
    else
      some (decide (o.Kind > (6 : Int)))) fun x1 =>
  bif x1 then
    some false
  else
    Option.bind (α := Bool) (
      Option.bind (obj_kept o.Label) fun v13 =>
      Option.bind (α := Bool) (
        bif (!v13) then
          some true
        else
          some (decide (o.Quota < (1 : Int)))) fun x15 =>
      bif x15 then
        some true
      else
        some (decide (o.Quota > (4096 : Int)))) fun x3 =>
    bif x3 then
      some false
    else
      Option.bind (α := Bool) (
        bif (o.Kind != (4 : Int)) then
          Option.bind (label_Owned o.Label) fun v12 =>
          some (decide ((v12.length : Int) > (0 : Int)))
        else
          some false) fun x5 =>
      bif x5 then
        some false
      else
        Option.bind (obj_bare o) fun v7 =>
        Option.bind (obj_SameOne v7 ({ ObjectD.zero with Id := o.Id, Kind := o.Kind, Label := o.Label, Quota := o.Quota, Fixed := o.Fixed } : ObjectD)) fun v8 =>
        bif v8 then
          Option.bind (obj_inner o) fun v10 =>
          some v10
        else
          some false

def seg_room (quota : Int) : Option (Int) :=
  Option.bind (α := Bool) (
    bif (decide (quota < (1 : Int))) then
      some true
    else
      some (decide (quota > (4096 : Int)))) fun x1 =>
  bif x1 then
    some (-1 : Int)
  else
    some (IntKind.i64.wrap ((IntKind.i64.wrap (quota - (1 : Int))) * (16 : Int)))

def seg_has (o : ObjectD) (at_ : Int) : Option (Int) :=
  bif (o.Kind != (1 : Int)) then
    some (3 : Int)
  else
    bif (decide (at_ ≥ (IntKind.u64.wrap (o.Data.length : Int)))) then
      some (13 : Int)
    else
      some (0 : Int)

def seg_Resize (o : ObjectD) (n : Int) : Option (ObjectD × Int) :=
  bif (o.Kind != (1 : Int)) then
    some (o, (3 : Int))
  else
    bif (decide (n < (0 : Int))) then
      some (o, (4 : Int))
    else
      Option.bind (seg_room o.Quota) fun v3 =>
      bif (decide (n > v3)) then
        some (o, (5 : Int))
      else
        Option.bind (mkL 8 (0 : Int) n) fun x5 =>
        some (({ o with Data := (cpyL x5 o.Data) } : ObjectD), (0 : Int))

def seg_Get (o : ObjectD) (at_ : Int) : Option (Int × Int) :=
  Option.bind (seg_has o at_) fun v1 =>
  bif (v1 != (0 : Int)) then
    some ((0 : Int), v1)
  else
    Option.bind (idx o.Data at_) fun x3 =>
    some (x3, (0 : Int))

def seg_Put (o : ObjectD) (at_ : Int) (v : Int) : Option (ObjectD × Int) :=
  Option.bind (seg_has o at_) fun v1 =>
  bif (v1 != (0 : Int)) then
    some (o, v1)
  else
    Option.bind (cloneL 8 o.Data) fun x3 =>
    Option.bind (idx x3 at_) fun x4 =>
    some (({ o with Data := (x3.set at_.toNat v) } : ObjectD), (0 : Int))

def seg_Copy (o : ObjectD) (id_ : Int) (l : List PairD) (quota : Int) : Option (ObjectD × Int) :=
  bif (o.Kind != (1 : Int)) then
    some (ObjectD.zero, (3 : Int))
  else
    Option.bind (α := Bool) (
      bif (decide (quota < (1 : Int))) then
        some true
      else
        bif (decide (quota ≤ (4096 : Int))) then
          Option.bind (seg_room quota) fun v10 =>
          some (decide ((o.Data.length : Int) > v10))
        else
          some false) fun x2 =>
    bif x2 then
      some (ObjectD.zero, (5 : Int))
    else
      Option.bind (cloneL 16 l) fun x4 =>
      Option.bind (cloneL 8 o.Data) fun x5 =>
      Option.bind (obj_Sound ({ ObjectD.zero with Id := id_, Kind := (1 : Int), Label := x4, Quota := quota, Data := x5 } : ObjectD)) fun v6 =>
      bif (!v6) then
        some (ObjectD.zero, (4 : Int))
      else
        some (({ ObjectD.zero with Id := id_, Kind := (1 : Int), Label := x4, Quota := quota, Data := x5 } : ObjectD), (0 : Int))

def seg_Page_L0 (o : ObjectD) (n : Int) (rec : (Int × Arr16 Int) → Option (Arr16 Int)) (x3 : Int × Arr16 Int) : Option (Arr16 Int) :=
  bif (decide (x3.1 < (16 : Int))) then
    Option.bind (α := Arr16 Int) (
      bif (decide ((IntKind.i64.wrap ((IntKind.i64.wrap (n * (16 : Int))) + x3.1)) < (o.Data.length : Int))) then
        Option.bind (idx o.Data (IntKind.i64.wrap ((IntKind.i64.wrap (n * (16 : Int))) + x3.1))) fun x8 =>
        Option.bind (inr 16 x3.1) fun j9 =>
        some (Arr16.set x3.2 j9 x8)
      else
        some x3.2) fun x6 =>
    rec ((IntKind.i64.wrap (x3.1 + (1 : Int))), x6)
  else
    some x3.2

def seg_Page (o : ObjectD) (n : Int) : Option (Arr16 Int) :=
  Option.bind (α := Bool) (
    Option.bind (α := Bool) (
      bif (o.Kind != (1 : Int)) then
        some true
      else
        some (decide (n < (0 : Int)))) fun x11 =>
    bif x11 then
      some true
    else
      some (decide (n ≥ (1048576 : Int)))) fun x1 =>
  bif x1 then
    some (arr16 (0 : Int))
  else
    Option.bind (iter (seg_Page_L0 o n) fuel0 ((0 : Int), (arr16 (0 : Int)))) fun y4exit0 =>
    some y4exit0

def law16_brief (o : ObjectD) : Option (Bool) :=
  Option.bind (α := Bool) (
    bif (decide ((o.Label.length : Int) ≤ (20 : Int))) then
      some (decide ((o.Data.length : Int) ≤ (200 : Int)))
    else
      some false) fun x2 =>
  Option.bind (α := Bool) (
    bif x2 then
      some (decide ((o.Links.length : Int) ≤ (70 : Int)))
    else
      some false) fun x4 =>
  Option.bind (α := Bool) (
    bif x4 then
      some (decide ((o.Maps.length : Int) ≤ (20 : Int)))
    else
      some false) fun x6 =>
  bif x6 then
    Option.bind (r13_Sound o) fun v8 =>
    some v8
  else
    some false

def law16_awake  : Option (Bool) :=
  Option.bind (seg_Resize ({ ObjectD.zero with Id := (2 : Int), Kind := (1 : Int), Quota := (2 : Int) } : ObjectD) (17 : Int)) fun v1 =>
  Option.bind (seg_Resize ({ ObjectD.zero with Id := (2 : Int), Kind := (1 : Int), Quota := (2 : Int) } : ObjectD) (3 : Int)) fun v2 =>
  Option.bind (seg_Get v2.1 (3 : Int)) fun v3 =>
  Option.bind (α := Bool) (
    bif (v1.2 == (5 : Int)) then
      some (v2.2 == (0 : Int))
    else
      some false) fun x5 =>
  Option.bind (α := Bool) (
    bif x5 then
      some ((v2.1.Data.length : Int) == (3 : Int))
    else
      some false) fun x7 =>
  bif x7 then
    some (v3.2 == (13 : Int))
  else
    some false

def law16_SegSwaps_L0 (o : ObjectD) (n : Int) (v17 : ObjectD × Int) (rec : (Int) → Option ((Unit) ⊕ (Unit))) (x18 : Int) : Option ((Unit) ⊕ (Unit)) :=
  bif (decide (x18 < (v17.1.Data.length : Int))) then
    Option.bind (idx v17.1.Data x18) fun x21 =>
    Option.bind (α := Bool) (
      Option.bind (α := Bool) (
        bif (decide (x18 < n)) then
          Option.bind (idx o.Data x18) fun x29 =>
          some (x21 != x29)
        else
          some false) fun x25 =>
      bif x25 then
        some true
      else
        Option.bind (α := Bool) (
          bif (decide (x18 ≥ n)) then
            some (x21 != (0 : Int))
          else
            some false) fun x28 =>
        some x28) fun x22 =>
    bif x22 then
      some (Sum.inl ())
    else
      rec (IntKind.i64.wrap (x18 + (1 : Int)))
  else
    some (Sum.inr ())

def law16_SegSwaps (o : ObjectD) (at_ : Int) (to_ : Int) (v : Int) (u : Int) (n : Int) : Option (Bool) :=
  Option.bind (α := Bool) (
    Option.bind (law16_brief o) fun v46 =>
    Option.bind (α := Bool) (
      bif (!v46) then
        some true
      else
        some (o.Kind != (1 : Int))) fun x48 =>
    bif x48 then
      some true
    else
      some (decide (n > (5000 : Int)))) fun x1 =>
  bif x1 then
    Option.bind (law16_awake) fun v3 =>
    some v3
  else
    Option.bind (seg_Put o at_ v) fun v4 =>
    Option.bind (seg_Put o to_ u) fun v5 =>
    Option.bind (α := (Unit) ⊕ (Unit)) (
      Option.bind (α := Bool) (
        bif (v4.2 == (0 : Int)) then
          some (v5.2 == (0 : Int))
        else
          some false) fun x32 =>
      bif x32 then
        Option.bind (seg_Put v4.1 to_ u) fun v34 =>
        Option.bind (seg_Put v5.1 at_ v) fun v35 =>
        Option.bind (α := Bool) (
          Option.bind (α := Bool) (
            bif (at_ != to_) then
              Option.bind (r13_SameOne v34.1 v35.1) fun v44 =>
              some (!v44)
            else
              some false) fun x39 =>
          bif x39 then
            some true
          else
            Option.bind (α := Bool) (
              bif (at_ == to_) then
                Option.bind (r13_SameOne v34.1 v5.1) fun v43 =>
                some (!v43)
              else
                some false) fun x42 =>
            some x42) fun x36 =>
        bif x36 then
          some (Sum.inl ())
        else
          some (Sum.inr ())
      else
        some (Sum.inr ())) fun y => match y with
    | (Sum.inl y6ret) =>
      some false
    | (Sum.inr x6) =>
      Option.bind (α := (Unit) ⊕ (Unit)) (
        Option.bind (seg_Resize o n) fun v14 =>
        Option.bind (α := Bool) (
          bif (v14.2 == (0 : Int)) then
            some (decide (n < (o.Data.length : Int)))
          else
            some false) fun x15 =>
        bif x15 then
          Option.bind (seg_Resize v14.1 (o.Data.length : Int)) fun v17 =>
          Option.bind (iter (law16_SegSwaps_L0 o n v17) fuel0 (0 : Int)) fun y => match y with
          | (Sum.inl y19ret) =>
            some (Sum.inl ())
          | (Sum.inr y19exit0) =>
            bif (v17.2 != (0 : Int)) then
              some (Sum.inl ())
            else
              some (Sum.inr ())
        else
          some (Sum.inr ())) fun y => match y with
      | (Sum.inl y7ret) =>
        some false
      | (Sum.inr x7) =>
        Option.bind (seg_Copy o o.Id o.Label o.Quota) fun v8 =>
        Option.bind (α := Bool) (
          bif (v8.2 == (0 : Int)) then
            Option.bind (r13_SameOne v8.1 ({ o with Fixed := false } : ObjectD)) fun v13 =>
            some v13
          else
            some false) fun x10 =>
        bif x10 then
          Option.bind (law16_awake) fun v12 =>
          some v12
        else
          some false

end Go.Proofs.Ytpckfpahmnhfcaa.K
