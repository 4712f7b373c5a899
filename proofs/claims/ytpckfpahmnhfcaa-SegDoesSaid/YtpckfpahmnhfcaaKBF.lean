/- What functions of the program compute, as plain Lean. Printed by wip/gen/pwrun.py. -/
import Derived.Test.YtpckfpahmnhfcaaKAF
namespace Go.Proofs.Ytpckfpahmnhfcaa.K
open Go Go.RowKit Go.Proofs.Ytpckfpahmnhfcaa.G
set_option linter.unusedVariables false
def cmp_isNaN_u64 (x : Int) : Option (Bool) :=
  some (x != x)

def cmp_Compare_u64 (x : Int) (y : Int) : Option (Int) :=
  Option.bind (cmp_isNaN_u64 x) fun v1 =>
  Option.bind (cmp_isNaN_u64 y) fun v2 =>
  bif v1 then
    bif v2 then
      some (0 : Int)
    else
      some (-1 : Int)
  else
    bif v2 then
      some (1 : Int)
    else
      bif (decide (x < y)) then
        some (-1 : Int)
      else
        bif (decide (x > y)) then
          some (1 : Int)
        else
          some (0 : Int)

def obj_idOf (o : ObjectD) : Option (Int) :=
  some o.Id

def cpu_Fault (t : ThreadD) (why : Int) : Option (ThreadD) :=
  bif (t.Handler == (0 : Int)) then
    some ({ t with State := (2 : Int), Wait := WaitD.zero } : ThreadD)
  else
    some ({ t with Regs := (⟨t.Regs.e0, t.Regs.e1, t.Regs.e2, t.Regs.e3, t.Regs.e4, t.Regs.e5, t.Regs.e6, t.Regs.e7, t.Regs.e8, t.Regs.e9, t.Regs.e10, t.Regs.e11, t.Regs.e12, t.Regs.e13, t.Pc, why⟩ : Arr16 Int), Pc := t.Handler, Handler := (0 : Int) } : ThreadD)

def cpu_Alert (t : ThreadD) : Option (ThreadD × Bool) :=
  Option.bind (α := Bool) (
    bif ((t.Alerts.length : Int) == (0 : Int)) then
      some true
    else
      some (t.Vector == (0 : Int))) fun x1 =>
  bif x1 then
    some (t, false)
  else
    Option.bind (idx t.Alerts (0 : Int)) fun x3 =>
    Option.bind (cutL t.Alerts (1 : Int) (t.Alerts.length : Int)) fun x4 =>
    Option.bind (app 8 [] x4) fun x5 =>
    some (({ t with Regs := (⟨t.Regs.e0, t.Regs.e1, t.Regs.e2, t.Regs.e3, t.Regs.e4, t.Regs.e5, t.Regs.e6, t.Regs.e7, t.Regs.e8, t.Regs.e9, t.Regs.e10, t.Regs.e11, t.Regs.e12, t.Regs.e13, t.Pc, x3⟩ : Arr16 Int), Pc := t.Vector, Vector := (0 : Int), Alerts := x5 } : ThreadD), true)

def obj_Find_L0 (w : WorldD) (id_ : Int) (rec : (Int × Int) → Option (Int)) (x4 : Int × Int) : Option (Int) :=
  bif (decide (x4.1 < x4.2)) then
    Option.bind (idx w.Objects (IntKind.i64.wrap ((IntKind.u64.wrap (IntKind.i64.wrap (x4.1 + x4.2))).fdiv (2 ^ (min (1 : Int).toNat (IntKind.bits .u64)))))) fun x7 =>
    Option.bind (obj_idOf x7) fun v8 =>
    Option.bind (cmp_Compare_u64 v8 id_) fun v9 =>
    bif (decide (v9 < (0 : Int))) then
      rec ((IntKind.i64.wrap ((IntKind.i64.wrap ((IntKind.u64.wrap (IntKind.i64.wrap (x4.1 + x4.2))).fdiv (2 ^ (min (1 : Int).toNat (IntKind.bits .u64))))) + (1 : Int))), x4.2)
    else
      rec (x4.1, (IntKind.i64.wrap ((IntKind.u64.wrap (IntKind.i64.wrap (x4.1 + x4.2))).fdiv (2 ^ (min (1 : Int).toNat (IntKind.bits .u64))))))
  else
    some x4.1

def obj_Find (w : WorldD) (id_ : Int) : Option (ObjectD × Bool) :=
  Option.bind (α := Int × Bool) (
    Option.bind (iter (obj_Find_L0 w id_) fuel0 ((0 : Int), (w.Objects.length : Int))) fun y5exit0 =>
    bif (decide (y5exit0 < (w.Objects.length : Int))) then
      Option.bind (idx w.Objects y5exit0) fun x12 =>
      Option.bind (obj_idOf x12) fun v13 =>
      Option.bind (cmp_Compare_u64 v13 id_) fun v14 =>
      some (y5exit0, (v14 == (0 : Int)))
    else
      some (y5exit0, false)) fun x1 =>
  bif (!x1.2) then
    some (ObjectD.zero, false)
  else
    Option.bind (idx w.Objects x1.1) fun x3 =>
    some (x3, true)

def law19_awake  : Option (Bool) :=
  Option.bind (obj_Find WorldD.zero (5 : Int)) fun v1 =>
  Option.bind (α := Bool) (
    Option.bind (α := Bool) (
      bif (!v1.2) then
        some true
      else
        some (v1.1.Kind != (4 : Int))) fun x6 =>
    bif x6 then
      some true
    else
      some (v1.1.Thread.State != (0 : Int))) fun x2 =>
  bif x2 then
    Option.bind (cpu_Fault ThreadD.zero (1 : Int)) fun v4 =>
    some (v4.State == (2 : Int))
  else
    none

def law19_CpuTaken (t : ThreadD) (why : Int) : Option (Bool) :=
  bif (decide ((t.Alerts.length : Int) > (20 : Int))) then
    Option.bind (law19_awake) fun v2 =>
    some v2
  else
    Option.bind (cpu_Fault t why) fun v3 =>
    Option.bind (α := (Unit) ⊕ (Unit)) (
      bif (t.Handler == (0 : Int)) then
        Option.bind (α := Bool) (
          Option.bind (α := Bool) (
            bif (v3.State != (2 : Int)) then
              some true
            else
              some (!((v3.Regs.e0 == t.Regs.e0) && ((v3.Regs.e1 == t.Regs.e1) && ((v3.Regs.e2 == t.Regs.e2) && ((v3.Regs.e3 == t.Regs.e3) && ((v3.Regs.e4 == t.Regs.e4) && ((v3.Regs.e5 == t.Regs.e5) && ((v3.Regs.e6 == t.Regs.e6) && ((v3.Regs.e7 == t.Regs.e7) && ((v3.Regs.e8 == t.Regs.e8) && ((v3.Regs.e9 == t.Regs.e9) && ((v3.Regs.e10 == t.Regs.e10) && ((v3.Regs.e11 == t.Regs.e11) && ((v3.Regs.e12 == t.Regs.e12) && ((v3.Regs.e13 == t.Regs.e13) && ((v3.Regs.e14 == t.Regs.e14) && ((v3.Regs.e15 == t.Regs.e15) && true)))))))))))))))))) fun x24 =>
          bif x24 then
            some true
          else
            some (v3.Pc != t.Pc)) fun x21 =>
        bif x21 then
          some (Sum.inl ())
        else
          some (Sum.inr ())
      else
        Option.bind (α := Bool) (
          Option.bind (α := Bool) (
            bif (v3.Regs.e14 != t.Pc) then
              some true
            else
              some (v3.Regs.e15 != why)) fun x29 =>
          Option.bind (α := Bool) (
            bif x29 then
              some true
            else
              some (v3.Pc != t.Handler)) fun x31 =>
          Option.bind (α := Bool) (
            bif x31 then
              some true
            else
              some (v3.Handler != (0 : Int))) fun x33 =>
          bif x33 then
            some true
          else
            some (v3.State != t.State)) fun x26 =>
        bif x26 then
          some (Sum.inl ())
        else
          some (Sum.inr ())) fun y => match y with
    | (Sum.inl y4ret) =>
      some false
    | (Sum.inr x4) =>
      Option.bind (cpu_Alert t) fun v5 =>
      Option.bind (α := Bool) (
        bif (decide ((t.Alerts.length : Int) > (0 : Int))) then
          some (t.Vector != (0 : Int))
        else
          some false) fun x7 =>
      bif (!(v5.2 == x7)) then
        some false
      else
        bif (!v5.2) then
          Option.bind (r13_SameThread v5.1 t) fun v10 =>
          bif v10 then
            Option.bind (law19_awake) fun v12 =>
            some v12
          else
            some false
        else
          bif (v5.1.Regs.e14 == t.Pc) then
            Option.bind (idx t.Alerts (0 : Int)) fun x14 =>
            bif (v5.1.Regs.e15 == x14) then
              bif (v5.1.Pc == t.Vector) then
                bif (v5.1.Vector == (0 : Int)) then
                  bif ((v5.1.Alerts.length : Int) == (IntKind.i64.wrap ((t.Alerts.length : Int) - (1 : Int)))) then
                    Option.bind (law19_awake) fun v19 =>
                    some v19
                  else
                    some false
                else
                  some false
              else
                some false
            else
              some false
          else
            some false

end Go.Proofs.Ytpckfpahmnhfcaa.K
