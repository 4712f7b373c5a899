/- What functions of the program compute, as plain Lean. Printed by wip/gen/pwrun.py. -/
import Derived.Test.YtpckfpahmnhfcaaKEF
namespace Go.Proofs.Ytpckfpahmnhfcaa.K
open Go Go.RowKit Go.Proofs.Ytpckfpahmnhfcaa.G
set_option linter.unusedVariables false
def r16_room (n : Int) (quota : Int) : Option (Bool) :=
  some (decide (n ≤ (IntKind.i64.wrap ((16 : Int) * (IntKind.i64.wrap (quota - (1 : Int)))))))

def r16_Resize_L0 (o : ObjectD) (n : Int) (rec : (Int × List Int) → Option (List Int)) (x5 : Int × List Int) : Option (List Int) :=
  bif (decide (x5.1 < n)) then
    Option.bind (α := Int) (
      bif (decide (x5.1 < (o.Data.length : Int))) then
        Option.bind (idx o.Data x5.1) fun x11 =>
        some x11
      else
        some (0 : Int)) fun x8 =>
    Option.bind (app 8 x5.2 [x8]) fun x9 =>
    rec ((IntKind.i64.wrap (x5.1 + (1 : Int))), x9)
  else
    some x5.2

def r16_Resize (o : ObjectD) (n : Int) : Option (ObjectD × Int) :=
  bif (o.Kind != (1 : Int)) then
    some (o, (3 : Int))
  else
    bif (decide (n < (0 : Int))) then
      some (o, (4 : Int))
    else
      Option.bind (r16_room n o.Quota) fun v3 =>
      bif (!v3) then
        some (o, (5 : Int))
      else
        Option.bind (iter (r16_Resize_L0 o n) fuel0 ((0 : Int), [])) fun y6exit0 =>
        some (({ o with Data := y6exit0 } : ObjectD), (0 : Int))

def r16_Get (o : ObjectD) (at_ : Int) : Option (Int × Int) :=
  bif (o.Kind != (1 : Int)) then
    some ((0 : Int), (3 : Int))
  else
    bif (decide (at_ ≥ (IntKind.u64.wrap (o.Data.length : Int)))) then
      some ((0 : Int), (13 : Int))
    else
      Option.bind (idx o.Data at_) fun x3 =>
      some (x3, (0 : Int))

def r16_Put (o : ObjectD) (at_ : Int) (v : Int) : Option (ObjectD × Int) :=
  Option.bind (r16_Get o at_) fun v1 =>
  bif (v1.2 != (0 : Int)) then
    some (o, v1.2)
  else
    Option.bind (app 8 [] o.Data) fun x3 =>
    Option.bind (idx x3 at_) fun x4 =>
    some (({ o with Data := (x3.set at_.toNat v) } : ObjectD), (0 : Int))

def r16_Copy (o : ObjectD) (id_ : Int) (l : List PairD) (quota : Int) : Option (ObjectD × Int) :=
  bif (o.Kind != (1 : Int)) then
    some (ObjectD.zero, (3 : Int))
  else
    Option.bind (α := Bool) (
      bif (decide (quota < (1 : Int))) then
        some true
      else
        Option.bind (α := Bool) (
          bif (decide (quota ≤ (4096 : Int))) then
            Option.bind (r16_room (o.Data.length : Int) quota) fun v9 =>
            some (!v9)
          else
            some false) fun x8 =>
        some x8) fun x2 =>
    bif x2 then
      some (ObjectD.zero, (5 : Int))
    else
      Option.bind (r13_Sound ({ ObjectD.zero with Id := id_, Kind := (1 : Int), Label := l, Quota := quota, Data := o.Data } : ObjectD)) fun v4 =>
      bif (!v4) then
        some (ObjectD.zero, (4 : Int))
      else
        some (({ ObjectD.zero with Id := id_, Kind := (1 : Int), Label := l, Quota := quota, Data := o.Data } : ObjectD), (0 : Int))

def r16_Page_L0 (o : ObjectD) (n : Int) (rec : (Int × Arr16 Int) → Option (Arr16 Int)) (x1 : Int × Arr16 Int) : Option (Arr16 Int) :=
  bif (decide (x1.1 < (16 : Int))) then
    Option.bind (α := Arr16 Int) (
      Option.bind (α := Bool) (
        Option.bind (α := Bool) (
          bif (o.Kind == (1 : Int)) then
            some (decide (n ≥ (0 : Int)))
          else
            some false) fun x10 =>
        Option.bind (α := Bool) (
          bif x10 then
            some (decide (n < (1048576 : Int)))
          else
            some false) fun x12 =>
        bif x12 then
          some (decide ((IntKind.i64.wrap ((IntKind.i64.wrap ((16 : Int) * n)) + x1.1)) < (o.Data.length : Int)))
        else
          some false) fun x5 =>
      bif x5 then
        Option.bind (idx o.Data (IntKind.i64.wrap ((IntKind.i64.wrap ((16 : Int) * n)) + x1.1))) fun x7 =>
        Option.bind (inr 16 x1.1) fun j8 =>
        some (Arr16.set x1.2 j8 x7)
      else
        some x1.2) fun x4 =>
    rec ((IntKind.i64.wrap (x1.1 + (1 : Int))), x4)
  else
    some x1.2

def r16_Page (o : ObjectD) (n : Int) : Option (Arr16 Int) :=
  Option.bind (iter (r16_Page_L0 o n) fuel0 ((0 : Int), (arr16 (0 : Int)))) fun y2exit0 =>
  some y2exit0

def law16_SegDoes (o : ObjectD) (n : Int) (at_ : Int) (v : Int) (l : List PairD) (quota : Int) : Option (Bool) :=
  Option.bind (α := Bool) (
    Option.bind (law16_brief o) fun v35 =>
    Option.bind (α := Bool) (
      bif (!v35) then
        some true
      else
        some (decide ((l.length : Int) > (20 : Int)))) fun x37 =>
    Option.bind (α := Bool) (
      bif x37 then
        some true
      else
        Option.bind (r13_FitLabel l) fun v41 =>
        some (!v41)) fun x39 =>
    bif x39 then
      some true
    else
      some (decide (n > (5000 : Int)))) fun x1 =>
  bif x1 then
    Option.bind (law16_awake) fun v3 =>
    some v3
  else
    Option.bind (seg_Resize o n) fun v4 =>
    Option.bind (r16_Resize o n) fun v5 =>
    Option.bind (seg_Get o at_) fun v6 =>
    Option.bind (r16_Get o at_) fun v7 =>
    Option.bind (seg_Put o at_ v) fun v8 =>
    Option.bind (r16_Put o at_ v) fun v9 =>
    Option.bind (seg_Copy o v l quota) fun v10 =>
    Option.bind (r16_Copy o v l quota) fun v11 =>
    Option.bind (r13_SameOne v4.1 v5.1) fun v12 =>
    bif v12 then
      bif (v4.2 == v5.2) then
        bif (v6.1 == v7.1) then
          bif (v6.2 == v7.2) then
            Option.bind (r13_SameOne v8.1 v9.1) fun v17 =>
            bif v17 then
              bif (v8.2 == v9.2) then
                Option.bind (r13_SameOne v10.1 v11.1) fun v20 =>
                bif v20 then
                  bif (v10.2 == v11.2) then
                    Option.bind (seg_Page o n) fun v23 =>
                    Option.bind (r16_Page o n) fun v24 =>
                    bif ((v23.e0 == v24.e0) && ((v23.e1 == v24.e1) && ((v23.e2 == v24.e2) && ((v23.e3 == v24.e3) && ((v23.e4 == v24.e4) && ((v23.e5 == v24.e5) && ((v23.e6 == v24.e6) && ((v23.e7 == v24.e7) && ((v23.e8 == v24.e8) && ((v23.e9 == v24.e9) && ((v23.e10 == v24.e10) && ((v23.e11 == v24.e11) && ((v23.e12 == v24.e12) && ((v23.e13 == v24.e13) && ((v23.e14 == v24.e14) && ((v23.e15 == v24.e15) && true)))))))))))))))) then
                      Option.bind (r13_Sound v4.1) fun v26 =>
                      bif v26 then
                        Option.bind (r13_Sound v8.1) fun v28 =>
                        bif v28 then
                          bif (v10.2 != (0 : Int)) then
                            Option.bind (law16_awake) fun v31 =>
                            some v31
                          else
                            Option.bind (r13_Sound v10.1) fun v32 =>
                            bif v32 then
                              Option.bind (law16_awake) fun v34 =>
                              some v34
                            else
                              some false
                        else
                          some false
                      else
                        some false
                    else
                      some false
                  else
                    some false
                else
                  some false
              else
                some false
            else
              some false
          else
            some false
        else
          some false
      else
        some false
    else
      some false

end Go.Proofs.Ytpckfpahmnhfcaa.K
