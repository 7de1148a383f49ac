import Derived.Test.YtenddelnfflkjaaZe
import Derived.Sort.AssemblyPlain
import Derived.KernelRfl
set_option linter.unusedVariables false
set_option maxRecDepth 100000
namespace Go.Proofs.Xu
open Go Go.Xl Go.Ab Go.Proofs Go.Sort
class OrdS (El : Type) where
 lt : El → El → Bool
 L : El → El → Option Bool
 dflt : El
 hL : ∀ x y, L x y = some (lt x y)
 swo : SWO lt
 anti : ∀ x y, lt x y = false → lt y x = false → x = y
noncomputable def Q4p {El : Type} [OrdS El] (N : Nat) :=
 fun (l : List El) (n : Nat) (x x_1 : Int) =>
 iter
  (fun (rec : (Int × Unit) × Unit × Unit × List El × Unit → Option (List El × Unit))
    (z : (Int × Unit) × Unit × Unit × List El × Unit) =>
   bif decide (z.1.1 < x_1) then
    iter
     (fun (rec_1 : (Int × Unit) × Unit × Unit × List El × Unit → Option (List El × Unit))
       (z_1 : (Int × Unit) × Unit × Unit × List El × Unit) =>
      Ql
       (fun (z : Unit × Unit × Unit × Unit) =>
        bif
          decide (0 ≤ IntKind.i64.wrap (z_1.1.1 - 1)) &&
           decide (IntKind.i64.wrap (z_1.1.1 - 1) < (↑n : Int)) then
         z_1.2.2.2.1[0 + (IntKind.i64.wrap (z_1.1.1 - 1)).toNat]?.bind fun (e : El) =>
          bif decide (0 ≤ z_1.1.1) && decide (z_1.1.1 < (↑n : Int)) then
           z_1.2.2.2.1[0 + z_1.1.1.toNat]?.bind fun (e_1 : El) =>
            bif decide (0 ≤ z_1.1.1) && decide (z_1.1.1 < (↑n : Int)) then
             z_1.2.2.2.1[0 + z_1.1.1.toNat]?.bind fun (e_2 : El) =>
              bif
                decide (0 ≤ IntKind.i64.wrap (z_1.1.1 - 1)) &&
                 decide (IntKind.i64.wrap (z_1.1.1 - 1) < (↑n : Int)) then
               (z_1.2.2.2.1.set (0 + z_1.1.1.toNat)
                   e)[0 + (IntKind.i64.wrap (z_1.1.1 - 1)).toNat]?.bind
                fun (e_3 : El) =>
                rec_1
                 ((IntKind.i64.wrap (z_1.1.1 - 1), ()), (), (),
                  (z_1.2.2.2.1.set (0 + z_1.1.1.toNat) e).set
                   (0 + (IntKind.i64.wrap (z_1.1.1 - 1)).toNat) e_1,
                  ())
              else none
            else none
          else none
        else none)
       fun (k : Unit × Unit × Unit × Unit → Option (List El × Unit)) =>
       bif decide (x < z_1.1.1) then
        bif decide (0 ≤ z_1.1.1) && decide (z_1.1.1 < (↑n : Int)) then
         z_1.2.2.2.1[0 + z_1.1.1.toNat]?.bind fun (e : El) =>
          bif
            decide (0 ≤ IntKind.i64.wrap (z_1.1.1 - 1)) &&
             decide (IntKind.i64.wrap (z_1.1.1 - 1) < (↑n : Int)) then
           z_1.2.2.2.1[0 + (IntKind.i64.wrap (z_1.1.1 - 1)).toNat]?.bind
            fun (e_1 : El) =>
            Option.bind (OrdS.L e e_1) fun (y : Bool) =>
             bif y then k ((), (), (), ())
             else rec ((IntKind.i64.wrap (z.1.1 + 1), ()), (), (), z_1.2.2.2.1, ())
          else none
        else none
       else rec ((IntKind.i64.wrap (z.1.1 + 1), ()), (), (), z_1.2.2.2.1, ()))
     N ((z.1.1, ()), (), (), z.2.2.2.1, ())
   else some (z.2.2.2.1, ()))
  N ((IntKind.i64.wrap (x + 1), ()), (), (), l, ())
noncomputable def Q7o {El : Type} [OrdS El] (N : Nat) :=
 fun (l : List El) (n : Nat) (x x_1 x_2 : Int) =>
 iter
  (fun (rec : (Int × Unit) × Unit × Unit × List El × Unit → Option (List El × Unit))
    (z : (Int × Unit) × Unit × Unit × List El × Unit) =>
   bif decide (x_1 ≤ IntKind.i64.wrap (IntKind.i64.wrap (2 * z.1.1) + 1)) then some (z.2.2.2.1, ())
   else
    Ql
     (fun (z_1 : (Int × Unit) × Unit × Unit × Unit) =>
      bif
        decide (0 ≤ IntKind.i64.wrap (x_2 + z.1.1)) &&
         decide (IntKind.i64.wrap (x_2 + z.1.1) < (↑n : Int)) then
       z.2.2.2.1[0 + (IntKind.i64.wrap (x_2 + z.1.1)).toNat]?.bind fun (e : El) =>
        bif
          decide (0 ≤ IntKind.i64.wrap (x_2 + z_1.1.1)) &&
           decide (IntKind.i64.wrap (x_2 + z_1.1.1) < (↑n : Int)) then
         z.2.2.2.1[0 + (IntKind.i64.wrap (x_2 + z_1.1.1)).toNat]?.bind fun (e_1 : El) =>
          Option.bind (OrdS.L e e_1) fun (y : Bool) =>
           bif !y then some (z.2.2.2.1, ())
           else
            bif
              decide (0 ≤ IntKind.i64.wrap (x_2 + z_1.1.1)) &&
               decide (IntKind.i64.wrap (x_2 + z_1.1.1) < (↑n : Int)) then
             z.2.2.2.1[0 + (IntKind.i64.wrap (x_2 + z_1.1.1)).toNat]?.bind
              fun (e : El) =>
              bif
                decide (0 ≤ IntKind.i64.wrap (x_2 + z.1.1)) &&
                 decide (IntKind.i64.wrap (x_2 + z.1.1) < (↑n : Int)) then
               z.2.2.2.1[0 + (IntKind.i64.wrap (x_2 + z.1.1)).toNat]?.bind
                fun (e_2 : El) =>
                bif
                  decide (0 ≤ IntKind.i64.wrap (x_2 + z.1.1)) &&
                   decide (IntKind.i64.wrap (x_2 + z.1.1) < (↑n : Int)) then
                 z.2.2.2.1[0 + (IntKind.i64.wrap (x_2 + z.1.1)).toNat]?.bind
                  fun (e_3 : El) =>
                  bif
                    decide (0 ≤ IntKind.i64.wrap (x_2 + z_1.1.1)) &&
                     decide (IntKind.i64.wrap (x_2 + z_1.1.1) < (↑n : Int)) then
                   (z.2.2.2.1.set (0 + (IntKind.i64.wrap (x_2 + z.1.1)).toNat)
                       e)[0 + (IntKind.i64.wrap (x_2 + z_1.1.1)).toNat]?.bind
                    fun (e_4 : El) =>
                    rec
                     ((z_1.1.1, ()), (), (),
                      (z.2.2.2.1.set (0 + (IntKind.i64.wrap (x_2 + z.1.1)).toNat)
                         e).set
                       (0 + (IntKind.i64.wrap (x_2 + z_1.1.1)).toNat) e_2,
                      ())
                  else none
                else none
              else none
            else none
        else none
      else none)
     fun (k : (Int × Unit) × Unit × Unit × Unit → Option (List El × Unit)) =>
     bif decide (IntKind.i64.wrap (IntKind.i64.wrap (IntKind.i64.wrap (2 * z.1.1) + 1) + 1) < x_1) then
      bif
        decide (0 ≤ IntKind.i64.wrap (x_2 + IntKind.i64.wrap (IntKind.i64.wrap (2 * z.1.1) + 1))) &&
         decide
          (IntKind.i64.wrap (x_2 + IntKind.i64.wrap (IntKind.i64.wrap (2 * z.1.1) + 1)) < (↑n : Int)) then
       z.2.2.2.1[0 +
           (IntKind.i64.wrap (x_2 + IntKind.i64.wrap (IntKind.i64.wrap (2 * z.1.1) + 1))).toNat]?.bind
        fun (e : El) =>
        bif
          decide
            (0 ≤
             IntKind.i64.wrap
              (IntKind.i64.wrap (x_2 + IntKind.i64.wrap (IntKind.i64.wrap (2 * z.1.1) + 1)) + 1)) &&
           decide
            (IntKind.i64.wrap
              (IntKind.i64.wrap (x_2 + IntKind.i64.wrap (IntKind.i64.wrap (2 * z.1.1) + 1)) + 1) <
             (↑n : Int)) then
         z.2.2.2.1[0 +
             (IntKind.i64.wrap
               (IntKind.i64.wrap (x_2 + IntKind.i64.wrap (IntKind.i64.wrap (2 * z.1.1) + 1)) +
                1)).toNat]?.bind
          fun (e_1 : El) =>
          Option.bind (OrdS.L e e_1) fun (y : Bool) =>
           bif y then
            k
             ((IntKind.i64.wrap (IntKind.i64.wrap (IntKind.i64.wrap (2 * z.1.1) + 1) + 1), ()), (), (),
              ())
           else k ((IntKind.i64.wrap (IntKind.i64.wrap (2 * z.1.1) + 1), ()), (), (), ())
        else none
      else none
     else k ((IntKind.i64.wrap (IntKind.i64.wrap (2 * z.1.1) + 1), ()), (), (), ()))
  N ((x, ()), (), (), l, ())
noncomputable def Q9h {El : Type} [OrdS El] (N : Nat) :=
 fun (l : List El) (n : Nat) (x x_1 : Int) =>
 iter
  (fun (rec : (Int × Unit) × Unit × Unit × List El × Unit → Option (List El × Unit))
    (z : (Int × Unit) × Unit × Unit × List El × Unit) =>
   bif decide (0 ≤ z.1.1) then
    Option.bind (Q7o N z.2.2.2.1 n z.1.1 (IntKind.i64.wrap (x_1 - x)) x)
     fun (y : List El × Unit) => rec ((IntKind.i64.wrap (z.1.1 - 1), ()), (), (), y.1, ())
   else
    iter
     (fun (rec : (Int × Unit) × Unit × Unit × List El × Unit → Option (List El × Unit))
       (z : (Int × Unit) × Unit × Unit × List El × Unit) =>
      bif decide (0 ≤ z.1.1) then
       bif
         decide (0 ≤ IntKind.i64.wrap (x + z.1.1)) &&
          decide (IntKind.i64.wrap (x + z.1.1) < (↑n : Int)) then
        z.2.2.2.1[0 + (IntKind.i64.wrap (x + z.1.1)).toNat]?.bind fun (e : El) =>
         bif decide (0 ≤ x) && decide (x < (↑n : Int)) then
          z.2.2.2.1[0 + x.toNat]?.bind fun (e_1 : El) =>
           bif decide (0 ≤ x) && decide (x < (↑n : Int)) then
            z.2.2.2.1[0 + x.toNat]?.bind fun (e_2 : El) =>
             bif
               decide (0 ≤ IntKind.i64.wrap (x + z.1.1)) &&
                decide (IntKind.i64.wrap (x + z.1.1) < (↑n : Int)) then
              (z.2.2.2.1.set (0 + x.toNat) e)[0 + (IntKind.i64.wrap (x + z.1.1)).toNat]?.bind
               fun (e_3 : El) =>
               Option.bind
                (Q7o N
                 ((z.2.2.2.1.set (0 + x.toNat) e).set
                  (0 + (IntKind.i64.wrap (x + z.1.1)).toNat) e_1)
                 n 0 z.1.1 x)
                fun (y : List El × Unit) =>
                rec ((IntKind.i64.wrap (z.1.1 - 1), ()), (), (), y.1, ())
             else none
           else none
         else none
       else none
      else some (z.2.2.2.1, ()))
     N ((IntKind.i64.wrap (IntKind.i64.wrap (x_1 - x) - 1), ()), (), (), z.2.2.2.1, ()))
  N ((IntKind.i64.wrap ((IntKind.i64.wrap (IntKind.i64.wrap (x_1 - x) - 1)).tdiv 2), ()), (), (), l, ())
noncomputable def Q35 {El : Type} [OrdS El] (N : Nat) :=
 fun (l : List El) (n : Nat) (x x_1 : Int) =>
 bif decide (8 ≤ IntKind.i64.wrap (x_1 - x)) then
  Option.bind (Q29 N (IntKind.i64.wrap (x_1 - x))) fun (y : Int) =>
   iter
    (fun
      (rec :
       (Int × Unit) × ((Int × Unit) × Unit) × Unit × List El × Unit →
        Option (List El × Unit))
      (z : (Int × Unit) × ((Int × Unit) × Unit) × Unit × List El × Unit) =>
     bif
       decide
        (z.1.1 ≤
         IntKind.i64.wrap
          (IntKind.i64.wrap
            (x + IntKind.i64.wrap (IntKind.i64.wrap ((IntKind.i64.wrap (x_1 - x)).tdiv 4) * 2)) +
           1)) then
      Option.bind (Q41 N z.2.1.1.1)
       fun (y_1 : (Int × Unit) × ((Int × Unit) × Unit) × Unit × Unit) =>
       Ql
        (fun (z_1 : (Int × Unit) × Unit × Unit × Unit) =>
         bif
           decide (0 ≤ IntKind.i64.wrap (x + z_1.1.1)) &&
            decide (IntKind.i64.wrap (x + z_1.1.1) < (↑n : Int)) then
          z.2.2.2.1[0 + (IntKind.i64.wrap (x + z_1.1.1)).toNat]?.bind fun (e : El) =>
           bif decide (0 ≤ z.1.1) && decide (z.1.1 < (↑n : Int)) then
            z.2.2.2.1[0 + z.1.1.toNat]?.bind fun (e_1 : El) =>
             bif decide (0 ≤ z.1.1) && decide (z.1.1 < (↑n : Int)) then
              z.2.2.2.1[0 + z.1.1.toNat]?.bind fun (e_2 : El) =>
               bif
                 decide (0 ≤ IntKind.i64.wrap (x + z_1.1.1)) &&
                  decide (IntKind.i64.wrap (x + z_1.1.1) < (↑n : Int)) then
                (z.2.2.2.1.set (0 + z.1.1.toNat)
                    e)[0 + (IntKind.i64.wrap (x + z_1.1.1)).toNat]?.bind
                 fun (e_3 : El) =>
                 rec
                  ((IntKind.i64.wrap (z.1.1 + 1), ()), ((y_1.2.1.1.1, ()), ()), (),
                   (z.2.2.2.1.set (0 + z.1.1.toNat) e).set
                    (0 + (IntKind.i64.wrap (x + z_1.1.1)).toNat) e_1,
                   ())
               else none
             else none
           else none
         else none)
        fun (k : (Int × Unit) × Unit × Unit × Unit → Option (List El × Unit)) =>
        bif
          decide
           (IntKind.i64.wrap (x_1 - x) ≤
            IntKind.i64.wrap (bits BinOp.and IntKind.u64 y_1.1.1 (IntKind.u64.wrap (y - 1)))) then
         k
          ((IntKind.i64.wrap
             (IntKind.i64.wrap (bits BinOp.and IntKind.u64 y_1.1.1 (IntKind.u64.wrap (y - 1))) -
              IntKind.i64.wrap (x_1 - x)),
            ()),
           (), (), ())
        else
         k
          ((IntKind.i64.wrap (bits BinOp.and IntKind.u64 y_1.1.1 (IntKind.u64.wrap (y - 1))), ()), (), (),
           ())
     else some (z.2.2.2.1, ()))
    N
    ((IntKind.i64.wrap
       (IntKind.i64.wrap (x + IntKind.i64.wrap (IntKind.i64.wrap ((IntKind.i64.wrap (x_1 - x)).tdiv 4) * 2)) -
        1),
      ()),
     ((IntKind.u64.wrap (IntKind.i64.wrap (x_1 - x)), ()), ()), (), l, ())
 else some (l, ())
noncomputable def Q8y {El : Type} [OrdS El] (N : Nat) :=
 fun (n : Nat) (y y_1 y_2 : Int) (l : List El) =>
 bif decide (0 ≤ y_1) && decide (y_1 < (↑n : Int)) then
  l[0 + y_1.toNat]?.bind fun (e : El) =>
   bif decide (0 ≤ y) && decide (y < (↑n : Int)) then
    l[0 + y.toNat]?.bind fun (e_1 : El) =>
     Option.bind (OrdS.L e e_1) fun (y_3 : Bool) =>
      bif y_3 then some ((y_1, y, ()), ((IntKind.i64.wrap (y_2 + 1), ()), ()), (), ())
      else some ((y, y_1, ()), ((y_2, ()), ()), (), ())
   else none
 else none
noncomputable def Q8i {El : Type} [OrdS El] (N : Nat) :=
 fun (n : Nat) (y y_1 y_2 y_3 : Int) (l : List El) =>
 Option.bind (Q8y N n y y_1 y_3 l)
  fun (y : (Int × Int × Unit) × ((Int × Unit) × Unit) × Unit × Unit) =>
  Option.bind (Q8y N n y.1.2.1 y_2 y.2.1.1.1 l)
   fun (y_4 : (Int × Int × Unit) × ((Int × Unit) × Unit) × Unit × Unit) =>
   Option.bind (Q8y N n y.1.1 y_4.1.1 y_4.2.1.1.1 l)
    fun (y : (Int × Int × Unit) × ((Int × Unit) × Unit) × Unit × Unit) =>
    some ((y.1.2.1, ()), ((y.2.1.1.1, ()), ()), (), ())
noncomputable def Q23 {El : Type} [OrdS El] (N : Nat) :=
 fun (n : Nat) (y y_1 : Int) (l : List El) =>
 Option.bind (Q8i N n (IntKind.i64.wrap (y - 1)) y (IntKind.i64.wrap (y + 1)) y_1 l)
  fun (y : (Int × Unit) × ((Int × Unit) × Unit) × Unit × Unit) =>
  some ((y.1.1, ()), ((y.2.1.1.1, ()), ()), (), ())
noncomputable def Q67 {El : Type} [OrdS El] (N : Nat) :=
 fun (l : List El) (n : Nat) (x x_1 : Int) =>
 Ql
  (fun (z : (Int × Unit) × ((Int × Unit) × Unit) × Unit × List El × Unit) =>
   bif z.2.1.1.1 == 0 then some (z.2.2.2.1, z.1.1, 1)
   else
    bif z.2.1.1.1 == 12 then some (z.2.2.2.1, z.1.1, 2)
    else some (z.2.2.2.1, z.1.1, 0))
  fun
   (k :
    (Int × Unit) × ((Int × Unit) × Unit) × Unit × List El × Unit →
     Option (List El × Int × Int)) =>
  bif decide (8 ≤ IntKind.i64.wrap (x_1 - x)) then
   bif decide (50 ≤ IntKind.i64.wrap (x_1 - x)) then
    Option.bind
     (Q23 N n
      (IntKind.i64.wrap (x + IntKind.i64.wrap (IntKind.i64.wrap ((IntKind.i64.wrap (x_1 - x)).tdiv 4) * 1))) 0 l)
     fun (y : (Int × Unit) × ((Int × Unit) × Unit) × Unit × Unit) =>
     Option.bind
      (Q23 N n
       (IntKind.i64.wrap (x + IntKind.i64.wrap (IntKind.i64.wrap ((IntKind.i64.wrap (x_1 - x)).tdiv 4) * 2)))
       y.2.1.1.1 l)
      fun (y_1 : (Int × Unit) × ((Int × Unit) × Unit) × Unit × Unit) =>
      Option.bind
       (Q23 N n
        (IntKind.i64.wrap (x + IntKind.i64.wrap (IntKind.i64.wrap ((IntKind.i64.wrap (x_1 - x)).tdiv 4) * 3)))
        y_1.2.1.1.1 l)
       fun (y_2 : (Int × Unit) × ((Int × Unit) × Unit) × Unit × Unit) =>
       Option.bind (Q8i N n y.1.1 y_1.1.1 y_2.1.1 y_2.2.1.1.1 l)
        fun (y : (Int × Unit) × ((Int × Unit) × Unit) × Unit × Unit) =>
        k ((y.1.1, ()), ((y.2.1.1.1, ()), ()), (), l, ())
   else
    Option.bind
     (Q8i N n
      (IntKind.i64.wrap (x + IntKind.i64.wrap (IntKind.i64.wrap ((IntKind.i64.wrap (x_1 - x)).tdiv 4) * 1)))
      (IntKind.i64.wrap (x + IntKind.i64.wrap (IntKind.i64.wrap ((IntKind.i64.wrap (x_1 - x)).tdiv 4) * 2)))
      (IntKind.i64.wrap (x + IntKind.i64.wrap (IntKind.i64.wrap ((IntKind.i64.wrap (x_1 - x)).tdiv 4) * 3))) 0 l)
     fun (y : (Int × Unit) × ((Int × Unit) × Unit) × Unit × Unit) =>
     k ((y.1.1, ()), ((y.2.1.1.1, ()), ()), (), l, ())
  else
   k
    ((IntKind.i64.wrap (x + IntKind.i64.wrap (IntKind.i64.wrap ((IntKind.i64.wrap (x_1 - x)).tdiv 4) * 2)), ()),
     ((0, ()), ()), (), l, ())
noncomputable def Q3q {El : Type} [OrdS El] (N : Nat) :=
 fun (l : List El) (n : Nat) (x x_1 : Int) =>
 iter
  (fun (rec : (Int × Int × Unit) × Unit × Unit × List El × Unit → Option (List El × Unit))
    (z : (Int × Int × Unit) × Unit × Unit × List El × Unit) =>
   bif decide (z.1.1 < z.1.2.1) then
    bif decide (0 ≤ z.1.2.1) && decide (z.1.2.1 < (↑n : Int)) then
     z.2.2.2.1[0 + z.1.2.1.toNat]?.bind fun (e : El) =>
      bif decide (0 ≤ z.1.1) && decide (z.1.1 < (↑n : Int)) then
       z.2.2.2.1[0 + z.1.1.toNat]?.bind fun (e_1 : El) =>
        bif decide (0 ≤ z.1.1) && decide (z.1.1 < (↑n : Int)) then
         z.2.2.2.1[0 + z.1.1.toNat]?.bind fun (e_2 : El) =>
          bif decide (0 ≤ z.1.2.1) && decide (z.1.2.1 < (↑n : Int)) then
           (z.2.2.2.1.set (0 + z.1.1.toNat) e)[0 + z.1.2.1.toNat]?.bind
            fun (e_3 : El) =>
            rec
             ((IntKind.i64.wrap (z.1.1 + 1), IntKind.i64.wrap (z.1.2.1 - 1), ()), (), (),
              (z.2.2.2.1.set (0 + z.1.1.toNat) e).set (0 + z.1.2.1.toNat) e_1, ())
          else none
        else none
      else none
    else none
   else some (z.2.2.2.1, ()))
  N ((x, IntKind.i64.wrap (x_1 - 1), ()), (), (), l, ())
noncomputable def Q1r {El : Type} [OrdS El] (N : Nat) :=
 fun (l : List El) (n : Nat) (x x_1 : Int) =>
 iter
  (fun (rec : (Int × Int × Unit) × Unit × Unit × List El × Unit → Option (List El × Bool))
    (z : (Int × Int × Unit) × Unit × Unit × List El × Unit) =>
   bif decide (z.1.2.1 < 5) then
    Ql
     (fun (z_1 : (Int × Unit) × Unit × Unit × Unit) =>
      bif z_1.1.1 == x_1 then some (z.2.2.2.1, true)
      else
       bif decide (IntKind.i64.wrap (x_1 - x) < 50) then some (z.2.2.2.1, false)
       else
        bif
          decide (0 ≤ IntKind.i64.wrap (z_1.1.1 - 1)) &&
           decide (IntKind.i64.wrap (z_1.1.1 - 1) < (↑n : Int)) then
         z.2.2.2.1[0 + (IntKind.i64.wrap (z_1.1.1 - 1)).toNat]?.bind fun (e : El) =>
          bif decide (0 ≤ z_1.1.1) && decide (z_1.1.1 < (↑n : Int)) then
           z.2.2.2.1[0 + z_1.1.1.toNat]?.bind fun (e_1 : El) =>
            bif decide (0 ≤ z_1.1.1) && decide (z_1.1.1 < (↑n : Int)) then
             z.2.2.2.1[0 + z_1.1.1.toNat]?.bind fun (e_2 : El) =>
              bif
                decide (0 ≤ IntKind.i64.wrap (z_1.1.1 - 1)) &&
                 decide (IntKind.i64.wrap (z_1.1.1 - 1) < (↑n : Int)) then
               (z.2.2.2.1.set (0 + z_1.1.1.toNat)
                   e)[0 + (IntKind.i64.wrap (z_1.1.1 - 1)).toNat]?.bind
                fun (e_3 : El) =>
                Ql
                 (fun (z_2 : Unit × Unit × Unit × List El × Unit) =>
                  bif decide (2 ≤ IntKind.i64.wrap (x_1 - z_1.1.1)) then
                   iter
                    (fun
                      (rec_1 :
                       (Int × Unit) × Unit × Unit × List El × Unit →
                        Option (List El × Bool))
                      (z_3 : (Int × Unit) × Unit × Unit × List El × Unit) =>
                     bif decide (z_3.1.1 < x_1) then
                      bif decide (0 ≤ z_3.1.1) && decide (z_3.1.1 < (↑n : Int)) then
                       z_3.2.2.2.1[0 + z_3.1.1.toNat]?.bind fun (e : El) =>
                        bif
                          decide (0 ≤ IntKind.i64.wrap (z_3.1.1 - 1)) &&
                           decide (IntKind.i64.wrap (z_3.1.1 - 1) < (↑n : Int)) then
                         z_3.2.2.2.1[0 +
                             (IntKind.i64.wrap (z_3.1.1 - 1)).toNat]?.bind
                          fun (e_4 : El) =>
                          Option.bind (OrdS.L e e_4) fun (y : Bool) =>
                           bif !y then
                            rec
                             ((z_1.1.1, IntKind.i64.wrap (z.1.2.1 + 1), ()), (),
                              (), z_3.2.2.2.1, ())
                           else
                            bif
                              decide (0 ≤ IntKind.i64.wrap (z_3.1.1 - 1)) &&
                               decide
                                (IntKind.i64.wrap (z_3.1.1 - 1) < (↑n : Int)) then
                             z_3.2.2.2.1[0 +
                                 (IntKind.i64.wrap (z_3.1.1 - 1)).toNat]?.bind
                              fun (e : El) =>
                              bif
                                decide (0 ≤ z_3.1.1) &&
                                 decide (z_3.1.1 < (↑n : Int)) then
                               z_3.2.2.2.1[0 + z_3.1.1.toNat]?.bind
                                fun (e_5 : El) =>
                                bif
                                  decide (0 ≤ z_3.1.1) &&
                                   decide (z_3.1.1 < (↑n : Int)) then
                                 z_3.2.2.2.1[0 + z_3.1.1.toNat]?.bind
                                  fun (e_6 : El) =>
                                  bif
                                    decide
                                      (0 ≤ IntKind.i64.wrap (z_3.1.1 - 1)) &&
                                     decide
                                      (IntKind.i64.wrap (z_3.1.1 - 1) <
                                       (↑n : Int)) then
                                   (z_3.2.2.2.1.set (0 + z_3.1.1.toNat)
                                       e)[0 +
                                       (IntKind.i64.wrap
                                         (z_3.1.1 - 1)).toNat]?.bind
                                    fun (e_7 : El) =>
                                    rec_1
                                     ((IntKind.i64.wrap (z_3.1.1 + 1), ()), (),
                                      (),
                                      (z_3.2.2.2.1.set
                                         (0 + z_3.1.1.toNat) e).set
                                       (0 +
                                        (IntKind.i64.wrap
                                          (z_3.1.1 - 1)).toNat)
                                       e_5,
                                      ())
                                  else none
                                else none
                              else none
                            else none
                        else none
                      else none
                     else
                      rec
                       ((z_1.1.1, IntKind.i64.wrap (z.1.2.1 + 1), ()), (), (),
                        z_3.2.2.2.1, ()))
                    N ((IntKind.i64.wrap (z_1.1.1 + 1), ()), (), (), z_2.2.2.2.1, ())
                  else
                   rec
                    ((z_1.1.1, IntKind.i64.wrap (z.1.2.1 + 1), ()), (), (),
                     z_2.2.2.2.1, ()))
                 fun
                  (k :
                   Unit × Unit × Unit × List El × Unit →
                    Option (List El × Bool)) =>
                 bif decide (2 ≤ IntKind.i64.wrap (z_1.1.1 - x)) then
                  iter
                   (fun
                     (rec :
                      (Int × Unit) × Unit × Unit × List El × Unit →
                       Option (List El × Bool))
                     (z : (Int × Unit) × Unit × Unit × List El × Unit) =>
                    bif decide (1 ≤ z.1.1) then
                     bif decide (0 ≤ z.1.1) && decide (z.1.1 < (↑n : Int)) then
                      z.2.2.2.1[0 + z.1.1.toNat]?.bind fun (e : El) =>
                       bif
                         decide (0 ≤ IntKind.i64.wrap (z.1.1 - 1)) &&
                          decide (IntKind.i64.wrap (z.1.1 - 1) < (↑n : Int)) then
                        z.2.2.2.1[0 + (IntKind.i64.wrap (z.1.1 - 1)).toNat]?.bind
                         fun (e_4 : El) =>
                         Option.bind (OrdS.L e e_4) fun (y : Bool) =>
                          bif !y then k ((), (), (), z.2.2.2.1, ())
                          else
                           bif
                             decide (0 ≤ IntKind.i64.wrap (z.1.1 - 1)) &&
                              decide (IntKind.i64.wrap (z.1.1 - 1) < (↑n : Int)) then
                            z.2.2.2.1[0 +
                                (IntKind.i64.wrap (z.1.1 - 1)).toNat]?.bind
                             fun (e : El) =>
                             bif
                               decide (0 ≤ z.1.1) &&
                                decide (z.1.1 < (↑n : Int)) then
                              z.2.2.2.1[0 + z.1.1.toNat]?.bind
                               fun (e_5 : El) =>
                               bif
                                 decide (0 ≤ z.1.1) &&
                                  decide (z.1.1 < (↑n : Int)) then
                                z.2.2.2.1[0 + z.1.1.toNat]?.bind
                                 fun (e_6 : El) =>
                                 bif
                                   decide (0 ≤ IntKind.i64.wrap (z.1.1 - 1)) &&
                                    decide
                                     (IntKind.i64.wrap (z.1.1 - 1) <
                                      (↑n : Int)) then
                                  (z.2.2.2.1.set (0 + z.1.1.toNat)
                                      e)[0 +
                                      (IntKind.i64.wrap
                                        (z.1.1 - 1)).toNat]?.bind
                                   fun (e_7 : El) =>
                                   rec
                                    ((IntKind.i64.wrap (z.1.1 - 1), ()), (), (),
                                     (z.2.2.2.1.set (0 + z.1.1.toNat)
                                        e).set
                                      (0 +
                                       (IntKind.i64.wrap (z.1.1 - 1)).toNat)
                                      e_5,
                                     ())
                                 else none
                               else none
                             else none
                           else none
                       else none
                     else none
                    else k ((), (), (), z.2.2.2.1, ()))
                   N
                   ((IntKind.i64.wrap (z_1.1.1 - 1), ()), (), (),
                    (z.2.2.2.1.set (0 + z_1.1.1.toNat) e).set
                     (0 + (IntKind.i64.wrap (z_1.1.1 - 1)).toNat) e_1,
                    ())
                 else
                  k
                   ((), (), (),
                    (z.2.2.2.1.set (0 + z_1.1.1.toNat) e).set
                     (0 + (IntKind.i64.wrap (z_1.1.1 - 1)).toNat) e_1,
                    ())
              else none
            else none
          else none
        else none)
     fun (k : (Int × Unit) × Unit × Unit × Unit → Option (List El × Bool)) =>
     iter
      (fun (rec : (Int × Unit) × Unit × Unit × Unit → Option (List El × Bool))
        (z_1 : (Int × Unit) × Unit × Unit × Unit) =>
       bif decide (z_1.1.1 < x_1) then
        bif decide (0 ≤ z_1.1.1) && decide (z_1.1.1 < (↑n : Int)) then
         z.2.2.2.1[0 + z_1.1.1.toNat]?.bind fun (e : El) =>
          bif
            decide (0 ≤ IntKind.i64.wrap (z_1.1.1 - 1)) &&
             decide (IntKind.i64.wrap (z_1.1.1 - 1) < (↑n : Int)) then
           z.2.2.2.1[0 + (IntKind.i64.wrap (z_1.1.1 - 1)).toNat]?.bind fun (e_1 : El) =>
            Option.bind (OrdS.L e e_1) fun (y : Bool) =>
             bif !y then rec ((IntKind.i64.wrap (z_1.1.1 + 1), ()), (), (), ())
             else k ((z_1.1.1, ()), (), (), ())
          else none
        else none
       else k ((z_1.1.1, ()), (), (), ()))
      N ((z.1.1, ()), (), (), ())
   else some (z.2.2.2.1, false))
  N ((IntKind.i64.wrap (x + 1), 0, ()), (), (), l, ())
noncomputable def Q3o {El : Type} [OrdS El] (N : Nat) :=
 fun (l : List El) (n : Nat) (x x_1 x_2 : Int) =>
 bif decide (0 ≤ x_2) && decide (x_2 < (↑n : Int)) then
  l[0 + x_2.toNat]?.bind fun (e : El) =>
   bif decide (0 ≤ x) && decide (x < (↑n : Int)) then
    l[0 + x.toNat]?.bind fun (e_1 : El) =>
     bif decide (0 ≤ x) && decide (x < (↑n : Int)) then
      l[0 + x.toNat]?.bind fun (e_2 : El) =>
       bif decide (0 ≤ x_2) && decide (x_2 < (↑n : Int)) then
        (l.set (0 + x.toNat) e)[0 + x_2.toNat]?.bind fun (e_3 : El) =>
         iter
          (fun
            (rec :
             (Int × Int × Unit) × Unit × Unit × List El × Unit →
              Option (List El × Int))
            (z : (Int × Int × Unit) × Unit × Unit × List El × Unit) =>
           Ql
            (fun (z_1 : (Int × Unit) × Unit × Unit × Unit) =>
             Ql
              (fun (z_2 : (Int × Unit) × Unit × Unit × Unit) =>
               bif decide (z_2.1.1 < z_1.1.1) then some (z.2.2.2.1, z_1.1.1)
               else
                bif decide (0 ≤ z_2.1.1) && decide (z_2.1.1 < (↑n : Int)) then
                 z.2.2.2.1[0 + z_2.1.1.toNat]?.bind fun (e : El) =>
                  bif decide (0 ≤ z_1.1.1) && decide (z_1.1.1 < (↑n : Int)) then
                   z.2.2.2.1[0 + z_1.1.1.toNat]?.bind fun (e_4 : El) =>
                    bif decide (0 ≤ z_1.1.1) && decide (z_1.1.1 < (↑n : Int)) then
                     z.2.2.2.1[0 + z_1.1.1.toNat]?.bind fun (e_5 : El) =>
                      bif decide (0 ≤ z_2.1.1) && decide (z_2.1.1 < (↑n : Int)) then
                       (z.2.2.2.1.set (0 + z_1.1.1.toNat)
                           e)[0 + z_2.1.1.toNat]?.bind
                        fun (e_6 : El) =>
                        rec
                         ((IntKind.i64.wrap (z_1.1.1 + 1),
                           IntKind.i64.wrap (z_2.1.1 - 1), ()),
                          (), (),
                          (z.2.2.2.1.set (0 + z_1.1.1.toNat) e).set
                           (0 + z_2.1.1.toNat) e_4,
                          ())
                      else none
                    else none
                  else none
                else none)
              fun (k : (Int × Unit) × Unit × Unit × Unit → Option (List El × Int)) =>
              iter
               (fun (rec : (Int × Unit) × Unit × Unit × Unit → Option (List El × Int))
                 (z_2 : (Int × Unit) × Unit × Unit × Unit) =>
                bif decide (z_1.1.1 ≤ z_2.1.1) then
                 bif decide (0 ≤ x) && decide (x < (↑n : Int)) then
                  z.2.2.2.1[0 + x.toNat]?.bind fun (e : El) =>
                   bif decide (0 ≤ z_2.1.1) && decide (z_2.1.1 < (↑n : Int)) then
                    z.2.2.2.1[0 + z_2.1.1.toNat]?.bind fun (e_4 : El) =>
                     Option.bind (OrdS.L e e_4) fun (y : Bool) =>
                      bif y then rec ((IntKind.i64.wrap (z_2.1.1 - 1), ()), (), (), ())
                      else k ((z_2.1.1, ()), (), (), ())
                   else none
                 else none
                else k ((z_2.1.1, ()), (), (), ()))
               N ((z.1.2.1, ()), (), (), ()))
            fun (k : (Int × Unit) × Unit × Unit × Unit → Option (List El × Int)) =>
            iter
             (fun (rec : (Int × Unit) × Unit × Unit × Unit → Option (List El × Int))
               (z_1 : (Int × Unit) × Unit × Unit × Unit) =>
              bif decide (z_1.1.1 ≤ z.1.2.1) then
               bif decide (0 ≤ x) && decide (x < (↑n : Int)) then
                z.2.2.2.1[0 + x.toNat]?.bind fun (e : El) =>
                 bif decide (0 ≤ z_1.1.1) && decide (z_1.1.1 < (↑n : Int)) then
                  z.2.2.2.1[0 + z_1.1.1.toNat]?.bind fun (e_4 : El) =>
                   Option.bind (OrdS.L e e_4) fun (y : Bool) =>
                    bif !y then rec ((IntKind.i64.wrap (z_1.1.1 + 1), ()), (), (), ())
                    else k ((z_1.1.1, ()), (), (), ())
                 else none
               else none
              else k ((z_1.1.1, ()), (), (), ()))
             N ((z.1.1, ()), (), (), ()))
          N
          ((IntKind.i64.wrap (x + 1), IntKind.i64.wrap (x_1 - 1), ()), (), (),
           (l.set (0 + x.toNat) e).set (0 + x_2.toNat) e_1, ())
       else none
     else none
   else none
 else none
noncomputable def Q5e {El : Type} [OrdS El] (N : Nat) :=
 fun (l : List El) (n : Nat) (x x_1 x_2 : Int) =>
 bif decide (0 ≤ x_2) && decide (x_2 < (↑n : Int)) then
  l[0 + x_2.toNat]?.bind fun (e : El) =>
   bif decide (0 ≤ x) && decide (x < (↑n : Int)) then
    l[0 + x.toNat]?.bind fun (e_1 : El) =>
     bif decide (0 ≤ x) && decide (x < (↑n : Int)) then
      l[0 + x.toNat]?.bind fun (e_2 : El) =>
       bif decide (0 ≤ x_2) && decide (x_2 < (↑n : Int)) then
        (l.set (0 + x.toNat) e)[0 + x_2.toNat]?.bind fun (e_3 : El) =>
         Ql
          (fun (z : (Int × Unit) × Unit × Unit × Unit) =>
           Ql
            (fun (z_1 : (Int × Unit) × Unit × Unit × Unit) =>
             bif decide (z_1.1.1 < z.1.1) then
              bif decide (0 ≤ x) && decide (x < (↑n : Int)) then
               ((l.set (0 + x.toNat) e).set (0 + x_2.toNat) e_1)[0 + x.toNat]?.bind
                fun (e_4 : El) =>
                bif decide (0 ≤ z_1.1.1) && decide (z_1.1.1 < (↑n : Int)) then
                 ((l.set (0 + x.toNat) e).set (0 + x_2.toNat) e_1)[0 + z_1.1.1.toNat]?.bind
                  fun (e_5 : El) =>
                  bif decide (0 ≤ z_1.1.1) && decide (z_1.1.1 < (↑n : Int)) then
                   ((l.set (0 + x.toNat) e).set (0 + x_2.toNat) e_1)[0 + z_1.1.1.toNat]?.bind
                    fun (e_6 : El) =>
                    bif decide (0 ≤ x) && decide (x < (↑n : Int)) then
                     (((l.set (0 + x.toNat) e).set (0 + x_2.toNat) e_1).set (0 + z_1.1.1.toNat)
                         e_4)[0 + x.toNat]?.bind
                      fun (e_7 : El) =>
                      some
                       ((((l.set (0 + x.toNat) e).set (0 + x_2.toNat) e_1).set
                           (0 + z_1.1.1.toNat) e_4).set
                         (0 + x.toNat) e_5,
                        z_1.1.1, true)
                    else none
                  else none
                else none
              else none
             else
              bif decide (0 ≤ z_1.1.1) && decide (z_1.1.1 < (↑n : Int)) then
               ((l.set (0 + x.toNat) e).set (0 + x_2.toNat) e_1)[0 + z_1.1.1.toNat]?.bind
                fun (e_4 : El) =>
                bif decide (0 ≤ z.1.1) && decide (z.1.1 < (↑n : Int)) then
                 ((l.set (0 + x.toNat) e).set (0 + x_2.toNat) e_1)[0 + z.1.1.toNat]?.bind
                  fun (e_5 : El) =>
                  bif decide (0 ≤ z.1.1) && decide (z.1.1 < (↑n : Int)) then
                   ((l.set (0 + x.toNat) e).set (0 + x_2.toNat) e_1)[0 + z.1.1.toNat]?.bind
                    fun (e_6 : El) =>
                    bif decide (0 ≤ z_1.1.1) && decide (z_1.1.1 < (↑n : Int)) then
                     (((l.set (0 + x.toNat) e).set (0 + x_2.toNat) e_1).set (0 + z.1.1.toNat)
                         e_4)[0 + z_1.1.1.toNat]?.bind
                      fun (e_7 : El) =>
                      Ql
                       (fun (z : (Int × Unit) × Unit × Unit × List El × Unit) =>
                        bif decide (0 ≤ x) && decide (x < (↑n : Int)) then
                         z.2.2.2.1[0 + x.toNat]?.bind fun (e : El) =>
                          bif decide (0 ≤ z.1.1) && decide (z.1.1 < (↑n : Int)) then
                           z.2.2.2.1[0 + z.1.1.toNat]?.bind
                            fun (e_8 : El) =>
                            bif
                              decide (0 ≤ z.1.1) &&
                               decide (z.1.1 < (↑n : Int)) then
                             z.2.2.2.1[0 + z.1.1.toNat]?.bind
                              fun (e_9 : El) =>
                              bif decide (0 ≤ x) && decide (x < (↑n : Int)) then
                               (z.2.2.2.1.set (0 + z.1.1.toNat)
                                   e)[0 + x.toNat]?.bind
                                fun (e_10 : El) =>
                                some
                                 ((z.2.2.2.1.set (0 + z.1.1.toNat) e).set
                                   (0 + x.toNat) e_8,
                                  z.1.1, false)
                              else none
                            else none
                          else none
                        else none)
                       fun
                        (k :
                         (Int × Unit) × Unit × Unit × List El × Unit →
                          Option (List El × Int × Bool)) =>
                       iter
                        (fun
                          (rec :
                           (Int × Int × Unit) × Unit × Unit × List El × Unit →
                            Option (List El × Int × Bool))
                          (z :
                           (Int × Int × Unit) ×
                            Unit × Unit × List El × Unit) =>
                         Ql
                          (fun (z_2 : (Int × Unit) × Unit × Unit × Unit) =>
                           Ql
                            (fun (z_3 : (Int × Unit) × Unit × Unit × Unit) =>
                             bif decide (z_3.1.1 < z_2.1.1) then
                              k ((z_3.1.1, ()), (), (), z.2.2.2.1, ())
                             else
                              bif
                                decide (0 ≤ z_3.1.1) &&
                                 decide (z_3.1.1 < (↑n : Int)) then
                               z.2.2.2.1[0 + z_3.1.1.toNat]?.bind
                                fun (e : El) =>
                                bif
                                  decide (0 ≤ z_2.1.1) &&
                                   decide (z_2.1.1 < (↑n : Int)) then
                                 z.2.2.2.1[0 + z_2.1.1.toNat]?.bind
                                  fun (e_8 : El) =>
                                  bif
                                    decide (0 ≤ z_2.1.1) &&
                                     decide (z_2.1.1 < (↑n : Int)) then
                                   z.2.2.2.1[0 + z_2.1.1.toNat]?.bind
                                    fun (e_9 : El) =>
                                    bif
                                      decide (0 ≤ z_3.1.1) &&
                                       decide (z_3.1.1 < (↑n : Int)) then
                                     (z.2.2.2.1.set (0 + z_2.1.1.toNat)
                                         e)[0 + z_3.1.1.toNat]?.bind
                                      fun (e_10 : El) =>
                                      rec
                                       ((IntKind.i64.wrap (z_2.1.1 + 1),
                                         IntKind.i64.wrap (z_3.1.1 - 1),
                                         ()),
                                        (), (),
                                        (z.2.2.2.1.set
                                           (0 + z_2.1.1.toNat) e).set
                                         (0 + z_3.1.1.toNat) e_8,
                                        ())
                                    else none
                                  else none
                                else none
                              else none)
                            fun
                             (k :
                              (Int × Unit) × Unit × Unit × Unit →
                               Option (List El × Int × Bool)) =>
                            iter
                             (fun
                               (rec :
                                (Int × Unit) × Unit × Unit × Unit →
                                 Option (List El × Int × Bool))
                               (z_3 : (Int × Unit) × Unit × Unit × Unit) =>
                              bif decide (z_2.1.1 ≤ z_3.1.1) then
                               bif
                                 decide (0 ≤ z_3.1.1) &&
                                  decide (z_3.1.1 < (↑n : Int)) then
                                z.2.2.2.1[0 + z_3.1.1.toNat]?.bind
                                 fun (e : El) =>
                                 bif decide (0 ≤ x) && decide (x < (↑n : Int)) then
                                  z.2.2.2.1[0 + x.toNat]?.bind
                                   fun (e_8 : El) =>
                                   Option.bind (OrdS.L e e_8)
                                    fun (y : Bool) =>
                                    bif !y then
                                     rec
                                      ((IntKind.i64.wrap (z_3.1.1 - 1), ()),
                                       (), (), ())
                                    else k ((z_3.1.1, ()), (), (), ())
                                 else none
                               else none
                              else k ((z_3.1.1, ()), (), (), ()))
                             N ((z.1.2.1, ()), (), (), ()))
                          fun
                           (k :
                            (Int × Unit) × Unit × Unit × Unit →
                             Option (List El × Int × Bool)) =>
                          iter
                           (fun
                             (rec :
                              (Int × Unit) × Unit × Unit × Unit →
                               Option (List El × Int × Bool))
                             (z_2 : (Int × Unit) × Unit × Unit × Unit) =>
                            bif decide (z_2.1.1 ≤ z.1.2.1) then
                             bif
                               decide (0 ≤ z_2.1.1) &&
                                decide (z_2.1.1 < (↑n : Int)) then
                              z.2.2.2.1[0 + z_2.1.1.toNat]?.bind
                               fun (e : El) =>
                               bif decide (0 ≤ x) && decide (x < (↑n : Int)) then
                                z.2.2.2.1[0 + x.toNat]?.bind
                                 fun (e_8 : El) =>
                                 Option.bind (OrdS.L e e_8)
                                  fun (y : Bool) =>
                                  bif y then
                                   rec
                                    ((IntKind.i64.wrap (z_2.1.1 + 1), ()), (),
                                     (), ())
                                  else k ((z_2.1.1, ()), (), (), ())
                               else none
                             else none
                            else k ((z_2.1.1, ()), (), (), ()))
                           N ((z.1.1, ()), (), (), ()))
                        N
                        ((IntKind.i64.wrap (z.1.1 + 1), IntKind.i64.wrap (z_1.1.1 - 1),
                          ()),
                         (), (),
                         (((l.set (0 + x.toNat) e).set (0 + x_2.toNat) e_1).set
                            (0 + z.1.1.toNat) e_4).set
                          (0 + z_1.1.1.toNat) e_5,
                         ())
                    else none
                  else none
                else none
              else none)
            fun (k : (Int × Unit) × Unit × Unit × Unit → Option (List El × Int × Bool)) =>
            iter
             (fun (rec : (Int × Unit) × Unit × Unit × Unit → Option (List El × Int × Bool))
               (z_1 : (Int × Unit) × Unit × Unit × Unit) =>
              bif decide (z.1.1 ≤ z_1.1.1) then
               bif decide (0 ≤ z_1.1.1) && decide (z_1.1.1 < (↑n : Int)) then
                ((l.set (0 + x.toNat) e).set (0 + x_2.toNat) e_1)[0 + z_1.1.1.toNat]?.bind
                 fun (e_4 : El) =>
                 bif decide (0 ≤ x) && decide (x < (↑n : Int)) then
                  ((l.set (0 + x.toNat) e).set (0 + x_2.toNat) e_1)[0 + x.toNat]?.bind
                   fun (e : El) =>
                   Option.bind (OrdS.L e_4 e) fun (y : Bool) =>
                    bif !y then rec ((IntKind.i64.wrap (z_1.1.1 - 1), ()), (), (), ())
                    else k ((z_1.1.1, ()), (), (), ())
                 else none
               else none
              else k ((z_1.1.1, ()), (), (), ()))
             N ((IntKind.i64.wrap (x_1 - 1), ()), (), (), ()))
          fun (k : (Int × Unit) × Unit × Unit × Unit → Option (List El × Int × Bool)) =>
          iter
           (fun (rec : (Int × Unit) × Unit × Unit × Unit → Option (List El × Int × Bool))
             (z : (Int × Unit) × Unit × Unit × Unit) =>
            bif decide (z.1.1 ≤ IntKind.i64.wrap (x_1 - 1)) then
             bif decide (0 ≤ z.1.1) && decide (z.1.1 < (↑n : Int)) then
              ((l.set (0 + x.toNat) e).set (0 + x_2.toNat) e_1)[0 + z.1.1.toNat]?.bind
               fun (e_4 : El) =>
               bif decide (0 ≤ x) && decide (x < (↑n : Int)) then
                ((l.set (0 + x.toNat) e).set (0 + x_2.toNat) e_1)[0 + x.toNat]?.bind
                 fun (e : El) =>
                 Option.bind (OrdS.L e_4 e) fun (y : Bool) =>
                  bif y then rec ((IntKind.i64.wrap (z.1.1 + 1), ()), (), (), ())
                  else k ((z.1.1, ()), (), (), ())
               else none
             else none
            else k ((z.1.1, ()), (), (), ()))
           N ((IntKind.i64.wrap (x + 1), ()), (), (), ())
       else none
     else none
   else none
 else none
noncomputable def Q4n {El : Type} [OrdS El] (N : Nat) := fun (G : List El → Nat → Int → Int → Int → Option (List El × Unit)) (l : List El) (n : Nat) (x x_1 x_2 : Int) => iter (fun (rec : (Int × Int × Int × Bool ×
 Bool × Unit) × Unit × Unit × List El × Unit → Option (List El × Unit)) (z : (Int × Int × Int × Bool × Bool × Unit) × Unit × Unit × List El × Unit) => bif decide (IntKind.i64.wrap (z.1.2.1 - z.1.1) ≤ 12) then
 Option.bind (Q4p N z.2.2.2.1 n z.1.1 z.1.2.1) fun (y : List El × Unit) => some (y.1, ()) else bif z.1.2.2.1 == 0 then Option.bind (Q9h N z.2.2.2.1 n z.1.1
 z.1.2.1) fun (y : List El × Unit) => some (y.1, ()) else Ql (fun (z_1 : (Int × Unit) × Unit × Unit × List El × Unit) => Option.bind (Q67 N z_1.2.2.2.1 n z.1.1 z.1.2.1) fun (y :
 List El × Int × Int) => Ql (fun (z_2 : (Int × Int × Unit) × Unit × Unit × List El × Unit) => Ql (fun (z_3 : Unit × Unit × Unit × List El × Unit) => bif decide (0 < z.1.1) then bif decide (0 ≤
 IntKind.i64.wrap (z.1.1 - 1)) && decide (IntKind.i64.wrap (z.1.1 - 1) < (↑n : Int)) then z_3.2.2.2.1[0 + (IntKind.i64.wrap (z.1.1 - 1)).toNat]?.bind fun (e : El) => bif decide (0 ≤ z_2.1.1) &&
 decide (z_2.1.1 < (↑n : Int)) then z_3.2.2.2.1[0 + z_2.1.1.toNat]?.bind fun (e_1 : El) => Option.bind (OrdS.L e e_1) fun (y : Bool) => bif !y then Option.bind (Q3o N z_3.2.2.2.1 n
 z.1.1 z.1.2.1 z_2.1.1) fun (y : List El × Int) => rec ((y.2, z.1.2.1, z_1.1.1, z.1.2.2.2.1, z.1.2.2.2.2.1, ()), (), (), y.1, ()) else Option.bind (Q5e N
 z_3.2.2.2.1 n z.1.1 z.1.2.1 z_2.1.1) fun (y : List El × Int × Bool) => bif decide (IntKind.i64.wrap (y.2.1 - z.1.1) < IntKind.i64.wrap (z.1.2.1 - y.2.1)) then (G y.1 n z.1.1
 y.2.1 z_1.1.1).bind fun (y_1 : List El × Unit) => rec ((IntKind.i64.wrap (y.2.1 + 1), z.1.2.1, z_1.1.1, decide (IntKind.i64.wrap ((IntKind.i64.wrap (z.1.2.1 - z.1.1)).tdiv 8) ≤
 IntKind.i64.wrap (y.2.1 - z.1.1)), y.2.2, ()), (), (), y_1.1, ()) else (G y.1 n (IntKind.i64.wrap (y.2.1 + 1)) z.1.2.1 z_1.1.1).bind fun (y_1 : List El × Unit) => rec ((z.1.1,
 y.2.1, z_1.1.1, decide (IntKind.i64.wrap ((IntKind.i64.wrap (z.1.2.1 - z.1.1)).tdiv 8) ≤ IntKind.i64.wrap (z.1.2.1 - y.2.1)), y.2.2, ()), (), (), y_1.1, ()) else none else none else
 Option.bind (Q5e N z_3.2.2.2.1 n z.1.1 z.1.2.1 z_2.1.1) fun (y : List El × Int × Bool) => bif decide (IntKind.i64.wrap (y.2.1 - z.1.1) < IntKind.i64.wrap (z.1.2.1 -
 y.2.1)) then (G y.1 n z.1.1 y.2.1 z_1.1.1).bind fun (y_1 : List El × Unit) => rec ((IntKind.i64.wrap (y.2.1 + 1), z.1.2.1, z_1.1.1, decide (IntKind.i64.wrap ((IntKind.i64.wrap
 (z.1.2.1 - z.1.1)).tdiv 8) ≤ IntKind.i64.wrap (y.2.1 - z.1.1)), y.2.2, ()), (), (), y_1.1, ()) else (G y.1 n (IntKind.i64.wrap (y.2.1 + 1)) z.1.2.1 z_1.1.1).bind fun (y_1 : List
 El × Unit) => rec ((z.1.1, y.2.1, z_1.1.1, decide (IntKind.i64.wrap ((IntKind.i64.wrap (z.1.2.1 - z.1.1)).tdiv 8) ≤ IntKind.i64.wrap (z.1.2.1 - y.2.1)), y.2.2, ()), (), (), y_1.1,
 ())) fun (k : Unit × Unit × Unit × List El × Unit → Option (List El × Unit)) => bif z.1.2.2.2.1 then bif z.1.2.2.2.2.1 then bif z_2.1.2.1 == 1 then Option.bind (Q1r N
 z_2.2.2.2.1 n z.1.1 z.1.2.1) fun (y : List El × Bool) => bif y.2 then some (y.1, ()) else k ((), (), (), y.1, ()) else k ((), (), (), z_2.2.2.2.1, ()) else k ((), (), (),
 z_2.2.2.2.1, ()) else k ((), (), (), z_2.2.2.2.1, ())) fun (k : (Int × Int × Unit) × Unit × Unit × List El × Unit → Option (List El × Unit)) => bif y.2.2 == 2 then Option.bind (Q3q N y.1
 n z.1.1 z.1.2.1) fun (y_1 : List El × Unit) => k ((IntKind.i64.wrap (IntKind.i64.wrap (z.1.2.1 - 1) - IntKind.i64.wrap (y.2.1 - z.1.1)), 1, ()), (), (), y_1.1, ()) else k ((y.2.1,
 y.2.2, ()), (), (), y.1, ())) fun (k : (Int × Unit) × Unit × Unit × List El × Unit → Option (List El × Unit)) => bif !z.1.2.2.2.1 then Option.bind (Q35 N z.2.2.2.1 n z.1.1
 z.1.2.1) fun (y : List El × Unit) => k ((IntKind.i64.wrap (z.1.2.2.1 - 1), ()), (), (), y.1, ()) else k ((z.1.2.2.1, ()), (), (), z.2.2.2.1, ())) N ((x, x_1, x_2, true, true, ()), (), (),
 l, ())
def recG {El : Type} (R : (List El → Nat → Int → Int → Int → Option (List El × Unit)) → List El → Nat → Int → Int → Int → Option (List El × Unit)) : Nat → List El → Nat → Int → Int → Int → Option (List El × Unit)
 | 0 => fun _ _ _ _ _ => none
 | n + 1 => R (recG R n)
noncomputable def Qpt {El : Type} [OrdS El] (N : Nat) : List El → Nat → Int → Int → Int → Option (List El × Unit) := recG (Q4n N) N
noncomputable def Qjy {El : Type} [OrdS El] (N : Nat) :=
 fun (l : List El) (n : Nat) =>
 Option.bind (F_math_bits_Len N (IntKind.u64.wrap (↑n : Int))) fun (y : Int) =>
  Option.bind (Qpt N l n 0 (↑n : Int) y) fun (y : List El × Unit) =>
   some (y.1, ())
end Go.Proofs.Xu
set_option linter.unusedVariables false
set_option linter.unusedSimpArgs false
set_option linter.unusedSectionVars false
set_option maxRecDepth 100000
namespace Go.Proofs.Xu
open Go Go.Xl Go.Ab Go.Proofs Go.Sort
theorem inR' {a n : Nat} (h : a < n) : (decide (0 ≤ (a : Int)) && decide ((a : Int) < (n : Int))) = true := by simp; omega
theorem quarter {a b k : Nat} (h : a ≤ b) (hb : b ≤ 1000000000000) (hk : k ≤ 3) :
  IntKind.i64.wrap ((a : Int) + IntKind.i64.wrap (IntKind.i64.wrap ((IntKind.i64.wrap ((b : Int) - (a : Int))).tdiv 4) * (k : Int))) = ((a + (b - a) / 4 * k : Nat) : Int) := by
 have e1 : IntKind.i64.wrap ((b : Int) - (a : Int)) = ((b - a : Nat) : Int) := by
  rw [show (b : Int) - (a : Int) = ((b - a : Nat) : Int) by omega, Q5j (by omega)]
 have e2 : ((b - a : Nat) : Int).tdiv 4 = (((b - a) / 4 : Nat) : Int) := by
  rw [Int.tdiv_eq_ediv_of_nonneg (by omega)]; omega
 have hm : (b - a) / 4 * k ≤ (b - a) / 4 * 3 := Nat.mul_le_mul_left _ hk
 rw [e1, e2, Q5j (by omega), ← Int.natCast_mul, Q5j (by omega), ← Int.natCast_add, Q5j (by omega)]
theorem natA {a b : Nat} (h : a + b ≤ 4000000000000) : IntKind.i64.wrap ((a : Int) + (b : Int)) = ((a + b : Nat) : Int) := by
 rw [← Int.natCast_add, Q5j (by omega)]
theorem nat2 {a : Nat} (h : a ≤ 1000000000000) : IntKind.i64.wrap (2 * (a : Int)) = ((2 * a : Nat) : Int) := by
 rw [show 2 * (a : Int) = ((2 * a : Nat) : Int) by omega, Q5j (by omega)]
theorem pre1 {k : Nat} (h : k ≤ 1000000000000) : IntKind.i64.wrap ((k : Int) - 1) = (k : Int) - 1 := IntWalk.i64_in _ (by omega)
theorem Qki {σ R : Type} {J : σ → Option R} {B : (σ → Option R) → Option R} {r : Option R} (P : σ → Prop) (G : σ → Option R) (hJ : ∀ z, P z → J z = G z) (hB : ∀ k, (∀ z, P z → k z = G z) → B k = r) : Ql J B = r := hB J hJ
theorem Q5v {a b : Nat} (h : b ≤ a) (h' : a < 9223372036854775808) : IntKind.i64.wrap ((a : Int) - (b : Int)) = ((a - b : Nat) : Int) := by
 rw [show (a : Int) - (b : Int) = ((a - b : Nat) : Int) by omega, Q5j (by omega)]
theorem dlt {a b : Nat} (h : a < b) : decide ((a : Int) < (b : Int)) = true := by simp; omega
theorem dnlt {a b : Nat} (h : ¬ a < b) : decide ((a : Int) < (b : Int)) = false := by simp; omega
theorem dle {a b : Nat} (h : a ≤ b) : decide ((a : Int) ≤ (b : Int)) = true := by simp; omega
theorem dnle {a b : Nat} (h : ¬ a ≤ b) : decide ((a : Int) ≤ (b : Int)) = false := by simp; omega
abbrev St1 : Type := (Int × Unit) × Unit × Unit × Unit
abbrev st1 (i : Nat) : St1 := (((i : Int), ()), (), (), ())
theorem Qaj {σ R : Type} {J : σ → Option R} {B : (σ → Option R) → Option R} (x : σ) (h : ∀ k, B k = k x) : Ql J B = J x := h J
theorem Q90 {σ R : Type} {J : σ → Option R} {B : (σ → Option R) → Option R} {Q : R → Prop} (P : σ → Prop) (hJ : ∀ z, P z → ∃ r, J z = some r ∧ Q r) (hB : ∀ k, (∀ z, P z → ∃ r, k z = some r ∧ Q r) → ∃ r, B k = some r ∧ Q r) : ∃ r, Ql J B = some r ∧ Q r := hB J hJ
theorem Q12d : ((List.range 256).all fun c => match ([0, 1, 2, 2, 3, 3, 3, 3, 4, 4, 4, 4, 4, 4, 4, 4, 5, 5, 5, 5, 5, 5, 5, 5, 5, 5, 5, 5, 5, 5, 5, 5, 6, 6, 6, 6, 6, 6, 6, 6, 6, 6, 6, 6, 6, 6, 6, 6, 6, 6, 6, 6, 6, 6, 6, 6, 6, 6, 6, 6, 6, 6, 6, 6, 7, 7, 7, 7, 7, 7, 7, 7, 7, 7, 7, 7, 7, 7, 7, 7, 7, 7, 7, 7, 7, 7, 7, 7, 7, 7, 7, 7, 7, 7, 7, 7, 7, 7, 7, 7, 7, 7, 7, 7, 7, 7, 7, 7, 7, 7, 7, 7, 7, 7, 7, 7, 7, 7, 7, 7, 7, 7, 7, 7, 7, 7, 7, 7, 8, 8, 8, 8, 8, 8, 8, 8, 8, 8, 8, 8, 8, 8, 8, 8, 8, 8, 8, 8, 8, 8, 8, 8, 8, 8, 8, 8, 8, 8, 8, 8, 8, 8, 8, 8, 8, 8, 8, 8, 8, 8, 8, 8, 8, 8, 8, 8, 8, 8, 8, 8, 8, 8, 8, 8, 8, 8, 8, 8, 8, 8, 8, 8, 8, 8, 8, 8, 8, 8, 8, 8, 8, 8, 8, 8, 8, 8, 8, 8, 8, 8, 8, 8, 8, 8, 8, 8, 8, 8, 8, 8, 8, 8, 8, 8, 8, 8, 8, 8, 8, 8, 8, 8, 8, 8, 8, 8, 8, 8, 8, 8, 8, 8, 8, 8, 8, 8, 8, 8, 8, 8, 8, 8, 8, 8, 8, 8] : List UInt8)[c]? with | some t => decide (c = 0) || decide (2 ^ t.toNat ≤ 2 * c) && decide (t.toNat ≤ 8) | none => false) = true := by kernel_rfl
theorem Q13n (c : Nat) (h1 : 1 ≤ c) (h2 : c < 256) : ∃ t : UInt8, ([0, 1, 2, 2, 3, 3, 3, 3, 4, 4, 4, 4, 4, 4, 4, 4, 5, 5, 5, 5, 5, 5, 5, 5, 5, 5, 5, 5, 5, 5, 5, 5, 6, 6, 6, 6, 6, 6, 6, 6, 6, 6, 6, 6, 6, 6, 6, 6, 6, 6, 6, 6, 6, 6, 6, 6, 6, 6, 6, 6, 6, 6, 6, 6, 7, 7, 7, 7, 7, 7, 7, 7, 7, 7, 7, 7, 7, 7, 7, 7, 7, 7, 7, 7, 7, 7, 7, 7, 7, 7, 7, 7, 7, 7, 7, 7, 7, 7, 7, 7, 7, 7, 7, 7, 7, 7, 7, 7, 7, 7, 7, 7, 7, 7, 7, 7, 7, 7, 7, 7, 7, 7, 7, 7, 7, 7, 7, 7, 8, 8, 8, 8, 8, 8, 8, 8, 8, 8, 8, 8, 8, 8, 8, 8, 8, 8, 8, 8, 8, 8, 8, 8, 8, 8, 8, 8, 8, 8, 8, 8, 8, 8, 8, 8, 8, 8, 8, 8, 8, 8, 8, 8, 8, 8, 8, 8, 8, 8, 8, 8, 8, 8, 8, 8, 8, 8, 8, 8, 8, 8, 8, 8, 8, 8, 8, 8, 8, 8, 8, 8, 8, 8, 8, 8, 8, 8, 8, 8, 8, 8, 8, 8, 8, 8, 8, 8, 8, 8, 8, 8, 8, 8, 8, 8, 8, 8, 8, 8, 8, 8, 8, 8, 8, 8, 8, 8, 8, 8, 8, 8, 8, 8, 8, 8, 8, 8, 8, 8, 8, 8, 8, 8, 8, 8, 8, 8] : List UInt8)[c]? = some t ∧ 2 ^ t.toNat ≤ 2 * c ∧ t.toNat ≤ 8 := by
 have := List.all_eq_true.1 Q12d c (by simp [h2])
 generalize ([0, 1, 2, 2, 3, 3, 3, 3, 4, 4, 4, 4, 4, 4, 4, 4, 5, 5, 5, 5, 5, 5, 5, 5, 5, 5, 5, 5, 5, 5, 5, 5, 6, 6, 6, 6, 6, 6, 6, 6, 6, 6, 6, 6, 6, 6, 6, 6, 6, 6, 6, 6, 6, 6, 6, 6, 6, 6, 6, 6, 6, 6, 6, 6, 7, 7, 7, 7, 7, 7, 7, 7, 7, 7, 7, 7, 7, 7, 7, 7, 7, 7, 7, 7, 7, 7, 7, 7, 7, 7, 7, 7, 7, 7, 7, 7, 7, 7, 7, 7, 7, 7, 7, 7, 7, 7, 7, 7, 7, 7, 7, 7, 7, 7, 7, 7, 7, 7, 7, 7, 7, 7, 7, 7, 7, 7, 7, 7, 8, 8, 8, 8, 8, 8, 8, 8, 8, 8, 8, 8, 8, 8, 8, 8, 8, 8, 8, 8, 8, 8, 8, 8, 8, 8, 8, 8, 8, 8, 8, 8, 8, 8, 8, 8, 8, 8, 8, 8, 8, 8, 8, 8, 8, 8, 8, 8, 8, 8, 8, 8, 8, 8, 8, 8, 8, 8, 8, 8, 8, 8, 8, 8, 8, 8, 8, 8, 8, 8, 8, 8, 8, 8, 8, 8, 8, 8, 8, 8, 8, 8, 8, 8, 8, 8, 8, 8, 8, 8, 8, 8, 8, 8, 8, 8, 8, 8, 8, 8, 8, 8, 8, 8, 8, 8, 8, 8, 8, 8, 8, 8, 8, 8, 8, 8, 8, 8, 8, 8, 8, 8, 8, 8, 8, 8, 8, 8] : List UInt8)[c]? = o at this ⊢
 cases o with
 | none => simp at this
 | some t =>
  simp only [Bool.or_eq_true, Bool.and_eq_true, decide_eq_true_eq] at this
  rcases this with h | h
  ·omega
  ·exact ⟨t, rfl, h⟩
theorem Qmr (a b : Nat) : ((a : Int)).fdiv ((b : Nat) : Int) = ((a / b : Nat) : Int) := by
 rw [Int.fdiv_eq_ediv_of_nonneg _ (by omega)]; omega
theorem Qmo {x x' n d b : Nat} (hb : 2 ^ d = b) (h : x' * 2 ^ n ≤ x) : x' / b * 2 ^ (n + d) ≤ x := by
 have : x' / b * 2 ^ (n + d) = (x' / b * b) * 2 ^ n := by rw [Nat.pow_add, hb, Nat.mul_assoc, Nat.mul_comm (2 ^ n) b]
 rw [this]
 exact Nat.le_trans (Nat.mul_le_mul_right _ (Nat.div_mul_le_self _ _)) h
theorem Qn7 {n k : Nat} (h : n + k ≤ 1000) : IntKind.i64.wrap ((n : Int) + (k : Int)) = ((n + k : Nat) : Int) := by
 rw [← Int.natCast_add, Q5j (by omega)]
def LenQ (x : Nat) (r : Int) : Prop := ∃ k : Nat, r = (k : Int) ∧ 2 ^ k ≤ 2 * x ∧ k ≤ 64
theorem Q115 (N x : Nat) (h1 : 1 ≤ x) (h2 : x < 18446744073709551616) : ∃ r, Q54 N x = some r ∧ LenQ x r := by
 unfold Q54
 have e32 : (4294967296 : Int) = ((4294967296 : Nat) : Int) := rfl
 have e16 : (65536 : Int) = ((65536 : Nat) : Int) := rfl
 have e8 : (256 : Int) = ((256 : Nat) : Int) := rfl
 refine Q90 (fun z => ∃ (y n : Nat), z = (((y : Int), (n : Int), ()), (), (), ()) ∧ 1 ≤ y ∧ y * 2 ^ n ≤ x ∧ y < 4294967296 ∧ n ≤ 32) ?_ ?_
 ·rintro z ⟨y, n, rfl, g1, g2, g3, g4⟩
  refine Q90 (fun z => ∃ (y n : Nat), z = (((y : Int), (n : Int), ()), (), (), ()) ∧ 1 ≤ y ∧ y * 2 ^ n ≤ x ∧ y < 65536 ∧ n ≤ 48) ?_ ?_
  ·rintro z ⟨y, n, rfl, g1, g2, g3, g4⟩
   refine Q90 (fun z => ∃ (y n : Nat), z = (((y : Int), (n : Int), ()), (), (), ()) ∧ 1 ≤ y ∧ y * 2 ^ n ≤ x ∧ y < 256 ∧ n ≤ 56) ?_ ?_
   ·rintro z ⟨y, n, rfl, g1, g2, g3, g4⟩
    have hu : (toU8 (IntKind.u8.wrap (y : Int))).toNat = y := by
     have : IntKind.u8.wrap (y : Int) = (y : Int) := by simp [IntKind.wrap, IntKind.bits, IntKind.signed]; omega
     rw [this]; simp [toU8]; omega
    obtain ⟨t, e, k1, k2⟩ := Q13n y g1 g3
    simp only [hu, e, Option.bind_some]
    refine ⟨_, rfl, n + t.toNat, Qn7 (by omega), ?_, by omega⟩
    rw [Nat.pow_add]
    have := Nat.mul_le_mul_left (2 ^ n) k1
    have e2 : 2 ^ n * (2 * y) = 2 * (y * 2 ^ n) := by rw [Nat.mul_comm, Nat.mul_assoc]
    omega
   ·intro k hk
    by_cases h : 256 ≤ y
    ·have d : decide ((256 : Int) ≤ (y : Int)) = true := by simp; omega
     simp only [d, cond_true]
     refine hk _ ⟨y / 256, n + 8, by rw [e8, Qmr, show (8 : Int) = ((8 : Nat) : Int) from rfl, Qn7 (by omega)], by omega, Qmo rfl g2, by omega, by omega⟩
    ·have d : decide ((256 : Int) ≤ (y : Int)) = false := by simp; omega
     simp only [d, cond_false]
     exact hk _ ⟨y, n, rfl, g1, g2, by omega, by omega⟩
  ·intro k hk
   by_cases h : 65536 ≤ y
   ·have d : decide ((65536 : Int) ≤ (y : Int)) = true := by simp; omega
    simp only [d, cond_true]
    refine hk _ ⟨y / 65536, n + 16, by rw [e16, Qmr, show (16 : Int) = ((16 : Nat) : Int) from rfl, Qn7 (by omega)], by omega, Qmo rfl g2, by omega, by omega⟩
   ·have d : decide ((65536 : Int) ≤ (y : Int)) = false := by simp; omega
    simp only [d, cond_false]
    exact hk _ ⟨y, n, rfl, g1, g2, by omega, by omega⟩
 ·intro k hk
  by_cases h : 4294967296 ≤ x
  ·have d : decide ((4294967296 : Int) ≤ (x : Int)) = true := by simp; omega
   simp only [d, cond_true]
   refine hk _ ⟨x / 4294967296, 32, by rw [e32, Qmr]; rfl, by omega, by have := Qmo (x := x) (x' := x) (n := 0) (d := 32) (b := 4294967296) rfl (by omega); simpa using this, by omega, by omega⟩
  ·have d : decide ((4294967296 : Int) ≤ (x : Int)) = false := by simp; omega
   simp only [d, cond_false]
   exact hk _ ⟨x, 0, rfl, h1, by omega, by omega, by omega⟩
theorem Qyk (N x : Nat) (h1 : 1 ≤ x) (h2 : x < 18446744073709551616) : ∃ r, F_math_bits_Len N x = some r ∧ LenQ x r := by
 unfold F_math_bits_Len
 obtain ⟨r, e, h⟩ := Q115 N x h1 h2
 rw [e]
 exact ⟨r, rfl, h⟩
theorem Qg5 {n : Nat} (h : n < 18446744073709551616) : IntKind.u64.wrap (n : Int) = (n : Int) := by
 simp [IntKind.wrap, IntKind.bits, IntKind.signed]; omega
theorem Q12j (N x : Nat) (h1 : 1 ≤ x) (h2 : x ≤ 1000000000000) : ∃ m : Nat, Q29 N x = some ((m : Nat) : Int) ∧ 1 ≤ m ∧ m ≤ 2 * x := by
 unfold Q29
 rw [Qg5 (by omega)]
 obtain ⟨r, e, k, rfl, g1, g2⟩ := Qyk N x h1 (by omega)
 rw [e, Option.bind_some]
 have d : decide ((0 : Int) ≤ (k : Int)) = true := by simp
 simp only [d, cond_true, Int.toNat_natCast, Nat.min_eq_left g2]
 have hp : 1 ≤ 2 ^ k := Nat.one_le_two_pow
 refine ⟨2 ^ k, ?_, hp, g1⟩
 have : (1 : Int) * 2 ^ k = ((2 ^ k : Nat) : Int) := by rw [Int.one_mul, Int.natCast_pow]; rfl
 rw [this, Qg5 (by omega)]
theorem Q12i (x : Int) (m : Nat) (hm : m < 9223372036854775808) : ∃ r : Nat, bits BinOp.and IntKind.u64 x (m : Int) = (r : Int) ∧ r ≤ m := by
 refine ⟨(BitVec.ofInt 64 x &&& BitVec.ofInt 64 (m : Int)).toNat, ?_, ?_⟩
 ·have hle : (BitVec.ofInt 64 x &&& BitVec.ofInt 64 (m : Int)).toNat < 18446744073709551616 := BitVec.isLt _
  unfold bits
  exact Qg5 hle
 ·rw [BitVec.toNat_and]
  refine Nat.le_trans Nat.and_le_right ?_
  simp [BitVec.toNat_ofInt]
  omega
section
variable {El : Type} [OrdS El]
instance elInh : Inhabited El := ⟨OrdS.dflt⟩
def ltU (x y : El) : Bool := OrdS.lt x y
theorem Q2m (x y : El) : OrdS.L x y = some (ltU x y) := OrdS.hL x y
theorem Qj4 (N : Nat) (l : List El) (a b : Nat) (s : Int) (ha : a < l.length) (hb : b < l.length) :
  ∃ (p q : Nat) (s' : Int), Q8y N l.length a b s l = some (((p : Int), (q : Int), ()), ((s', ()), ()), (), ()) ∧ ((p = a ∧ q = b) ∨ (p = b ∧ q = a)) := by
 unfold Q8y
 simp only [inR' ha, inR' hb, cond_true, Nat.zero_add, Int.toNat_natCast, List.getElem?_eq_getElem ha, List.getElem?_eq_getElem hb, Option.bind_some, Q2m]
 cases ltU l[b] l[a] with
 | true => exact ⟨b, a, _, rfl, .inr ⟨rfl, rfl⟩⟩
 | false => exact ⟨a, b, _, rfl, .inl ⟨rfl, rfl⟩⟩
theorem Qk2 (N : Nat) (l : List El) (a b c : Nat) (s : Int) (ha : a < l.length) (hb : b < l.length) (hc : c < l.length) :
  ∃ (p : Nat) (s' : Int), Q8i N l.length a b c s l = some (((p : Int), ()), ((s', ()), ()), (), ()) ∧ (p = a ∨ p = b ∨ p = c) := by
 unfold Q8i
 obtain ⟨p1, q1, s1, e1, h1⟩ := Qj4 N l a b s ha hb
 rw [e1, Option.bind_some]
 obtain ⟨p2, q2, s2, e2, h2⟩ := Qj4 N l q1 c s1 (by omega) hc
 simp only [e2, Option.bind_some]
 obtain ⟨p3, q3, s3, e3, h3⟩ := Qj4 N l p1 p2 s2 (by omega) (by omega)
 simp only [e3, Option.bind_some]
 exact ⟨q3, s3, rfl, by omega⟩
theorem Q9n (N : Nat) (l : List El) (a : Nat) (s : Int) (h1 : 1 ≤ a) (h2 : a + 1 < l.length) (hl : l.length ≤ 1000000000000) :
  ∃ (p : Nat) (s' : Int), Q23 N l.length a s l = some (((p : Int), ()), ((s', ()), ()), (), ()) ∧ (p = a - 1 ∨ p = a ∨ p = a + 1) := by
 unfold Q23
 rw [Qq (by omega) (by omega), Q6 (by omega)]
 obtain ⟨p, s', e, h⟩ := Qk2 N l (a - 1) a (a + 1) s (by omega) (by omega) h2
 rw [e, Option.bind_some]
 exact ⟨p, s', rfl, h⟩
set_option maxHeartbeats 1000000 in
theorem choosePivot_eq (N : Nat) (l : List El) (a b : Nat) (hab : a < b) (hb : b ≤ l.length) (hl : l.length ≤ 1000000000000) :
  ∃ (p : Nat) (h : Int), Q67 N l l.length a b = some (l, (p : Int), h) ∧ a ≤ p ∧ p < b := by
 unfold Q67
 have q1 := quarter (k := 1) (show a ≤ b by omega) (by omega) (by omega)
 have q2 := quarter (k := 2) (show a ≤ b by omega) (by omega) (by omega)
 have q3 := quarter (k := 3) (show a ≤ b by omega) (by omega) (by omega)
 simp only [show ((1 : Nat) : Int) = 1 from rfl, show ((2 : Nat) : Int) = 2 from rfl, show ((3 : Nat) : Int) = 3 from rfl] at q1 q2 q3
 have e1 : IntKind.i64.wrap ((b : Int) - (a : Int)) = ((b - a : Nat) : Int) := by
  rw [show (b : Int) - (a : Int) = ((b - a : Nat) : Int) by omega, Q5j (by omega)]
 have fin : ∀ (p : Nat) (s : Int), a ≤ p → p < b → ∃ (p' : Nat) (h : Int), (bif s == 0 then some (l, ((p : Int), (1 : Int))) else bif s == 12 then some (l, ((p : Int), (2 : Int))) else some (l, ((p : Int), (0 : Int)))) = some (l, (p' : Int), h) ∧ a ≤ p' ∧ p' < b := by
  intro p s h1 h2
  cases s == 0 with
  | true => exact ⟨p, 1, rfl, h1, h2⟩
  | false =>
   cases s == 12 with
   | true => exact ⟨p, 2, rfl, h1, h2⟩
   | false => exact ⟨p, 0, rfl, h1, h2⟩
 rw [e1] at q1 q2 q3
 simp only [Ql, e1, q1, q2, q3]
 have hv1 : 4 * ((b - a) / 4) ≤ b - a := Nat.mul_div_le _ _
 have hv2 : b - a < 4 * ((b - a) / 4) + 4 := by omega
 have hv3 : 50 ≤ b - a → 12 ≤ (b - a) / 4 := by omega
 clear q1 q2 q3 e1
 generalize (b - a) / 4 = v at *
 by_cases h8 : 8 ≤ b - a
 ·have d8 : decide ((8 : Int) ≤ ((b - a : Nat) : Int)) = true := by simp; omega
  rw [d8, cond_true]
  by_cases h50 : 50 ≤ b - a
  ·have d50 : decide ((50 : Int) ≤ ((b - a : Nat) : Int)) = true := by simp; omega
   rw [d50, cond_true]
   obtain ⟨p1, s1, f1, g1⟩ := Q9n N l (a + v * 1) 0 (by omega) (by omega) hl
   obtain ⟨p2, s2, f2, g2⟩ := Q9n N l (a + v * 2) s1 (by omega) (by omega) hl
   obtain ⟨p3, s3, f3, g3⟩ := Q9n N l (a + v * 3) s2 (by omega) (by omega) hl
   obtain ⟨p4, s4, f4, g4⟩ := Qk2 N l p1 p2 p3 s3 (by omega) (by omega) (by omega)
   simp only [f1, f2, f3, f4, Option.bind_some]
   exact fin p4 s4 (by omega) (by omega)
  ·have d50 : decide ((50 : Int) ≤ ((b - a : Nat) : Int)) = false := by simp; omega
   rw [d50, cond_false]
   obtain ⟨p4, s4, f4, g4⟩ := Qk2 N l (a + v * 1) (a + v * 2) (a + v * 3) 0 (by omega) (by omega) (by omega)
   simp only [f4, Option.bind_some]
   exact fin p4 s4 (by omega) (by omega)
 ·have d8 : decide ((8 : Int) ≤ ((b - a : Nat) : Int)) = false := by simp; omega
  rw [d8, cond_false]
  exact fin (a + v * 2) 0 (by omega) (by omega)
def swL (l : List El) (i j : Nat) : List El := (swp l.toArray i j).toList
theorem Q4f {l : List El} {i j : Nat} (hi : i < l.length) (hj : j < l.length) : (l.set i l[j]).set j l[i] = swL l i j := by
 unfold swL swp
 simp [hi, hj]
theorem Q31 (l : List El) (i j : Nat) : (swL l i j).length = l.length := by simp [swL, swp]
def PermL (a b : Nat) (l l' : List El) : Prop := PermIn a b l.toArray l'.toArray
theorem PermL.len {a b : Nat} {l l' : List El} (h : PermL a b l l') : l'.length = l.length := by simpa using h.1
theorem PermL.refl (a b : Nat) (l : List El) : PermL a b l l := permIn_refl _ _ _
theorem PermL.trans {a b : Nat} {l l' l'' : List El} (h : PermL a b l l') (h' : PermL a b l' l'') : PermL a b l l'' := permIn_trans _ _ _ _ _ h h'
theorem PermL.swap {a b i j : Nat} {l : List El} (h1 : a ≤ i) (h2 : i < b) (h3 : a ≤ j) (h4 : j < b) (hb : b ≤ l.length) : PermL a b l (swL l i j) := by
 have := swp_permIn (α := El) l.toArray a b i j h1 h2 h3 h4 (by simpa using hb)
 simpa [PermL, swL] using this
theorem Qr {l : List El} {i j : Nat} (hi : i < l.length) (hj : j < l.length) : (l.set i l[j])[j]? = some l[j] := by
 by_cases h : i = j
 ·subst h; simp [hi]
 ·simp [List.getElem?_set, h, hj]
theorem Qob (N : Nat) (l : List El) (a b len : Nat) (hab : a < b) (hlen : l.length = len) (hb : b ≤ len) (hl : len ≤ 1000000000000) (hN : 1000000000000 < N) :
  ∃ l', Q3q N l len a b = some (l', ()) ∧ PermL a b l l' := by
 suffices H : ∃ r, Q3q N l len a b = some r ∧ ∃ l', r = (l', ()) ∧ PermL a b l l' by
  obtain ⟨r, h1, l', rfl, h2⟩ := H
  exact ⟨l', h1, h2⟩
 unfold Q3q
 rw [Qq (by omega) (by omega)]
 refine Q4q (Q := fun r : List El × Unit => ∃ l', r = (l', ()) ∧ PermL a b l l') (fun q z => ∃ (i j : Nat) (m : List El), z = (((i : Int), (j : Int), ()), (), (), m, ()) ∧ a ≤ i ∧ j < b ∧ q = b - i ∧ i ≤ b ∧ PermL a b l m) ?_ N (b - a) _
  ⟨a, b - 1, l, rfl, Nat.le_refl _, by omega, rfl, by omega, .refl _ _ _⟩ (by omega)
 rintro q z rec ⟨i, j, m, rfl, h1, h2, rfl, h3, h4⟩ ih
 have hm : m.length = len := by rw [h4.len, hlen]
 by_cases hij : i < j
 ·have d1 : decide ((i : Int) < (j : Int)) = true := by simp; omega
  have hi : i < m.length := by omega
  have hj : j < m.length := by omega
  simp only [d1, cond_true, ← hm, inR' hi, inR' hj, Nat.zero_add, Int.toNat_natCast, List.getElem?_eq_getElem hi, List.getElem?_eq_getElem hj, Option.bind_some, Qr hi hj, Q4f hi hj, Q6 (show i + 1 < 9223372036854775808 by omega), Qq (show 0 < j by omega) (show j < 9223372036854775808 by omega)]
  exact ih (b - (i + 1)) _ (by omega) ⟨i + 1, j - 1, swL m i j, rfl, by omega, by omega, rfl, by omega, h4.trans (.swap h1 (by omega) (by omega) h2 (by omega))⟩
 ·have d1 : decide ((i : Int) < (j : Int)) = false := by simp; omega
  simp only [d1, cond_false]
  exact ⟨_, rfl, m, rfl, h4⟩
theorem getA {l : List El} {i : Nat} (h : i < l.length) : l.toArray[i]! = l[i] := by simp [h]
theorem swA (l : List El) (i j : Nat) : swp l.toArray i j = (swL l i j).toArray := by simp [swL]
theorem Qm9 (N : Nat) (l : List El) (lo hi first len : Nat) (hlen : l.length = len) (hf : first + hi ≤ len) (hlo : lo ≤ 1000000000000) (hl : len ≤ 1000000000000) (hN : 1000000000000 < N) :
  Q7o N l len lo hi first = some ((siftDown ltU hi first lo l.toArray).toList, ()) := by
 unfold Q7o
 refine (Q3c (G := fun z => some ((siftDown ltU hi first z.1.1.toNat z.2.2.2.1.toArray).toList, ())) (fun q z => ∃ (r : Nat) (m : List El), z = (((r : Int), ()), (), (), m, ()) ∧ m.length = len ∧ r ≤ 1000000000000 ∧ q = hi - r) ?_ N (hi - lo) _ ⟨lo, l, rfl, hlen, hlo, rfl⟩ (by omega)).trans (by simp)
 rintro q z rec ⟨r, m, rfl, hm, hr, rfl⟩ ih
 have e1 : IntKind.i64.wrap (IntKind.i64.wrap (2 * (r : Int)) + 1) = ((2 * r + 1 : Nat) : Int) := by rw [nat2 hr, Q6 (by omega)]
 have e2 : IntKind.i64.wrap (((2 * r + 1 : Nat) : Int) + 1) = ((2 * r + 2 : Nat) : Int) := Q6 (by omega)
 simp only [e1, e2, Int.toNat_natCast]
 rw [siftDown]
 by_cases h : 2 * r + 1 ≥ hi
 ·have d : decide ((hi : Int) ≤ ((2 * r + 1 : Nat) : Int)) = true := by simp; omega
  simp only [d, cond_true, dif_pos h, List.toList_toArray]
 ·have d : decide ((hi : Int) ≤ ((2 * r + 1 : Nat) : Int)) = false := by simp; omega
  rw [dif_neg h]
  have f0 : first + r < m.length := by omega
  have f1 : first + (2 * r + 1) < m.length := by omega
  have a0 : IntKind.i64.wrap ((first : Int) + (r : Int)) = ((first + r : Nat) : Int) := natA (by omega)
  have a1 : IntKind.i64.wrap ((first : Int) + ((2 * r + 1 : Nat) : Int)) = ((first + (2 * r + 1) : Nat) : Int) := natA (by omega)
  have a2 : IntKind.i64.wrap (((first + (2 * r + 1) : Nat) : Int) + 1) = ((first + (2 * r + 1) + 1 : Nat) : Int) := Q6 (by omega)
  have hnext : ∀ c : Nat, c = 2 * r + 1 ∨ c = 2 * r + 2 → c < hi → rec (((c : Int), ()), (), (), swL m (first + r) (first + c), ()) = some ((siftDown ltU hi first c (swL m (first + r) (first + c)).toArray).toList, ()) := by
   intro c hc hch
   exact ih (hi - c) _ (by omega) ⟨c, _, rfl, by rw [Q31, hm], by omega, rfl⟩
  simp only [d, cond_false, Ql, a0, a1, a2, ← hm, inR' f0, inR' f1, cond_true, Nat.zero_add, Int.toNat_natCast, List.getElem?_eq_getElem f0, List.getElem?_eq_getElem f1, Option.bind_some, Q2m]
  by_cases h2 : 2 * r + 2 < hi
  ·have f2 : first + (2 * r + 1) + 1 < m.length := by omega
   have f3 : first + (2 * r + 2) < m.length := by omega
   have a3 : IntKind.i64.wrap ((first : Int) + ((2 * r + 2 : Nat) : Int)) = ((first + (2 * r + 2) : Nat) : Int) := natA (by omega)
   have d2 : decide (((2 * r + 2 : Nat) : Int) < (hi : Int)) = true := by simp; omega
   have d3 : decide (2 * r + 1 + 1 < hi) = true := by simp; omega
   have g3 : m[first + (2 * r + 1) + 1] = m[first + (2 * r + 2)] := rfl
   simp only [d2, cond_true, inR' f2, List.getElem?_eq_getElem f2, Option.bind_some, Q2m, getA f0, getA f1, getA f2, getA f3, d3, Bool.true_and, a3, inR' f3, List.getElem?_eq_getElem f3, dif_pos h2, swA]
   cases ltU m[first + (2 * r + 1)] m[first + (2 * r + 1) + 1] with
   | true =>
    simp only [cond_true, if_true, a3, inR' f3, List.getElem?_eq_getElem f3, Option.bind_some, Int.toNat_natCast, Nat.zero_add, Q2m]
    cases ltU m[first + r] m[first + (2 * r + 2)] with
    | true => simp only [Bool.not_true, cond_false, Qr f0 f3, Option.bind_some, Q4f f0 f3, Bool.false_eq_true, if_false, hnext (2 * r + 2) (.inr rfl) h2]
    | false => simp
   | false =>
    simp only [cond_false, Bool.false_eq_true, if_false, a1, inR' f1, cond_true, List.getElem?_eq_getElem f1, Option.bind_some, Int.toNat_natCast, Nat.zero_add, Q2m]
    cases ltU m[first + r] m[first + (2 * r + 1)] with
    | true => simp only [Bool.not_true, cond_false, Qr f0 f1, Option.bind_some, Q4f f0 f1, Bool.false_eq_true, if_false, hnext (2 * r + 1) (.inl rfl) (by omega)]
    | false => simp
  ·have d2 : decide (((2 * r + 2 : Nat) : Int) < (hi : Int)) = false := by simp; omega
   have d3 : decide (2 * r + 1 + 1 < hi) = false := by simp; omega
   simp only [d2, cond_false, a1, inR' f1, cond_true, List.getElem?_eq_getElem f1, Option.bind_some, Q2m, d3, Bool.false_and, Bool.false_eq_true, if_false, getA f0, getA f1, swA, Int.toNat_natCast, Nat.zero_add]
   cases ltU m[first + r] m[first + (2 * r + 1)] with
   | true => simp only [Bool.not_true, cond_false, Qr f0 f1, Option.bind_some, Q4f f0 f1, Bool.false_eq_true, if_false, hnext (2 * r + 1) (.inl rfl) (by omega)]
   | false => simp
theorem Qpr (hi F : Nat) : ∀ (n root : Nat) (d : Array El), hi - root ≤ n → (siftDown ltU hi F root d).size = d.size := by
 intro n
 induction n with
 | zero =>
  intro root d h
  rw [siftDown, dif_pos (by omega)]
 | succ n ih =>
  intro root d h
  rw [siftDown]
  split
  ·rfl
  ·repeat' split
   all_goals first | rfl | rw [ih _ _ (by omega), size_swp]
theorem Qvn (N : Nat) (l : List El) (a b len : Nat) (hlen : l.length = len) (hab : a < b) (hb : b ≤ len) (hl : len ≤ 1000000000000) (hN : 1000000000000 < N) :
  Q9h N l len a b = some ((heapSort ltU l.toArray a b).toList, ()) := by
 unfold Q9h heapSort
 have e1 : IntKind.i64.wrap ((b : Int) - (a : Int)) = ((b - a : Nat) : Int) := by
  rw [show (b : Int) - (a : Int) = ((b - a : Nat) : Int) by omega, Q5j (by omega)]
 have e2 : IntKind.i64.wrap (((b - a : Nat) : Int) - 1) = ((b - a : Nat) : Int) - 1 := pre1 (by omega)
 have e3 : (((b - a : Nat) : Int) - 1).tdiv 2 = (((b - a - 1) / 2 + 1 : Nat) : Int) - 1 := by
  rw [Int.tdiv_eq_ediv_of_nonneg (by omega)]; omega
 have e4 : IntKind.i64.wrap ((((b - a - 1) / 2 + 1 : Nat) : Int) - 1) = (((b - a - 1) / 2 + 1 : Nat) : Int) - 1 := pre1 (by omega)
 simp only [e1, e2, e3, e4]
 refine (Q3c (G := fun z => some ((heapPop ltU a (b - a) (heapBuild ltU (b - a) a (z.1.1 + 1).toNat z.2.2.2.1.toArray)).toList, ())) (fun q z => ∃ (k : Nat) (m : List El), z = (((k : Int) - 1, ()), (), (), m, ()) ∧ m.length = len ∧ k ≤ len ∧ q = k) ?_ N ((b - a - 1) / 2 + 1) _ ⟨(b - a - 1) / 2 + 1, l, rfl, hlen, by omega, rfl⟩ (by omega)).trans ?_
 ·rintro q z rec ⟨k, m, rfl, hm, hk, hq⟩ ih
  subst hq
  rcases Nat.eq_zero_or_pos q with h0 | h0
  ·subst h0
   have d : decide ((0 : Int) ≤ (((0 : Nat) : Int) - 1)) = false := by decide
   simp only [d, cond_false]
   refine (Q3c (G := fun z => some ((heapPop ltU a (z.1.1 + 1).toNat z.2.2.2.1.toArray).toList, ())) (fun q z => ∃ (m : List El), z = (((q : Int) - 1, ()), (), (), m, ()) ∧ m.length = len ∧ q ≤ b - a) ?_ N (b - a) _ ⟨m, rfl, hm, Nat.le_refl _⟩ (by omega)).trans ?_
   ·rintro q z rec2 ⟨m, rfl, hm, hq⟩ ih2
    rcases Nat.eq_zero_or_pos q with h0 | h0
    ·subst h0
     simp only [d, cond_false]
     have t : (((0 : Nat) : Int) - 1 + 1).toNat = 0 := rfl
     simp only [t, heapPop, List.toList_toArray]
    ·obtain ⟨k, rfl⟩ : ∃ k, q = k + 1 := ⟨q - 1, by omega⟩
     have ek : (((k + 1 : Nat) : Int) - 1) = (k : Int) := by omega
     have dk : decide ((0 : Int) ≤ (k : Int)) = true := by simp
     have fa : a < m.length := by omega
     have fk : a + k < m.length := by omega
     have t2 : ((k : Int) + 1).toNat = k + 1 := by omega
     have t1 : ((k : Int) - 1 + 1).toNat = k := by omega
     have hl2 : (swL m a (a + k)).length = len := by rw [Q31, hm]
     have hs := Qm9 N (swL m a (a + k)) 0 k a len hl2 (by omega) (by omega) hl hN
     have hn := ih2 k ((((k : Int) - 1), ()), (), (), (siftDown ltU k a 0 (swL m a (a + k)).toArray).toList, ()) (by omega) ⟨_, rfl, by rw [Array.length_toList, Qpr k a k 0 _ (by omega)]; simpa using hl2, by omega⟩
     have hz : ((0 : Nat) : Int) = (0 : Int) := rfl
     rw [hz] at hs
     simp only [ek, dk, cond_true, natA (show a + k ≤ 4000000000000 by omega), ← hm, inR' fa, inR' fk, Nat.zero_add, Int.toNat_natCast, List.getElem?_eq_getElem fa, List.getElem?_eq_getElem fk, Option.bind_some, Qr fa fk, Q4f fa fk, pre1 (show k ≤ 1000000000000 by omega)]
     rw [hm, hs, Option.bind_some, hn]
     simp only [t1, t2, heapPop, swA]
   ·have t : (((b - a : Nat) : Int) - 1 + 1).toNat = b - a := by omega
    have t0 : (((0 : Nat) : Int) - 1 + 1).toNat = 0 := rfl
    simp only [t, t0, heapBuild]
  ·obtain ⟨k, rfl⟩ : ∃ k, q = k + 1 := ⟨q - 1, by omega⟩
   have ek : (((k + 1 : Nat) : Int) - 1) = (k : Int) := by omega
   have dk : decide ((0 : Int) ≤ (k : Int)) = true := by simp
   have t2 : ((k : Int) + 1).toNat = k + 1 := by omega
   have t1 : ((k : Int) - 1 + 1).toNat = k := by omega
   have hn := ih k ((((k : Int) - 1), ()), (), (), (siftDown ltU (b - a) a k m.toArray).toList, ()) (by omega) ⟨k, _, rfl, by rw [Array.length_toList, Qpr (b - a) a (b - a) k _ (by omega)]; simpa using hm, by omega, rfl⟩
   simp only [ek, dk, cond_true, Qm9 N m k (b - a) a len hm (by omega) (by omega) hl hN, Option.bind_some, pre1 (show k ≤ 1000000000000 by omega)]
   rw [hn]
   simp only [t1, t2, heapBuild]
 ·have t : ((((b - a - 1) / 2 + 1 : Nat) : Int) - 1 + 1).toNat = (b - a - 1) / 2 + 1 := by omega
  simp only [t]
theorem Qme (N : Nat) (l : List El) (a b len : Nat) (hlen : l.length = len) (hab : a ≤ b) (hb : b ≤ len) (hl : len ≤ 1000000000000) (hN : 1000000000000 < N) :
  Q4p N l len a b = some ((insertionSort ltU l.toArray a b).toList, ()) := by
 unfold Q4p insertionSort
 rw [Q6 (by omega)]
 refine (Q3c (G := fun z => some ((insOuter ltU a b z.1.1.toNat z.2.2.2.1.toArray).toList, ())) (fun q z => ∃ (i : Nat) (m : List El), z = (((i : Int), ()), (), (), m, ()) ∧ m.length = len ∧ a < i ∧ i ≤ len + 1 ∧ q = b - i) ?_ N (b - (a + 1)) _ ⟨a + 1, l, rfl, hlen, by omega, by omega, rfl⟩ (by omega)).trans (by simp)
 rintro q z rec ⟨i, m, rfl, hm, hi, hi2, rfl⟩ ih
 simp only [Int.toNat_natCast]
 rw [insOuter]
 by_cases h : i < b
 ·have d : decide ((i : Int) < (b : Int)) = true := by simp; omega
  rw [if_pos h]
  simp only [d, cond_true]
  have hn : ∀ m' : List El, m'.length = len → rec ((((i + 1 : Nat) : Int), ()), (), (), m', ()) = some ((insOuter ltU a b (i + 1) m'.toArray).toList, ()) := fun m' h' => ih (b - (i + 1)) _ (by omega) ⟨i + 1, m', rfl, h', by omega, by omega, rfl⟩
  refine (Q3c (G := fun z => some ((insOuter ltU a b (i + 1) (insInner ltU a z.1.1.toNat z.2.2.2.1.toArray)).toList, ())) (fun q z => ∃ (m : List El), z = (((q : Int), ()), (), (), m, ()) ∧ m.length = len ∧ q < len ∧ a ≤ q) ?_ N i _ ⟨m, rfl, hm, by omega, by omega⟩ (by omega)).trans (by simp)
  rintro j z rec2 ⟨m, rfl, hm, hj, haj⟩ ih2
  by_cases hj0 : a < j
  ·obtain ⟨k, rfl⟩ : ∃ k, j = k + 1 := ⟨j - 1, by omega⟩
   have d2 : decide ((a : Int) < ((k + 1 : Nat) : Int)) = true := by simp; omega
   have w : IntKind.i64.wrap (((k + 1 : Nat) : Int) - 1) = (k : Int) := by rw [Qq (by omega) (by omega)]; rfl
   have f1 : k + 1 < m.length := by omega
   have f0 : k < m.length := by omega
   have hgt : decide (k + 1 > a) = true := by simp; omega
   have hn2 := ih2 k (((k : Int), ()), (), (), swL m (k + 1) k, ()) (by omega) ⟨_, rfl, by rw [Q31, hm], by omega, by omega⟩
   simp only [Ql, d2, cond_true, w, ← hm, inR' f1, inR' f0, Nat.zero_add, Int.toNat_natCast, List.getElem?_eq_getElem f1, List.getElem?_eq_getElem f0, Option.bind_some, Q2m, insInner, hgt, Bool.true_and, getA f1, getA f0, Q6 (show i + 1 < 9223372036854775808 by omega), Qr f1 f0, Q4f f1 f0, hn2, swA]
   cases ltU m[k + 1] m[k] with
   | true => simp
   | false => simp only [cond_false, Bool.false_eq_true, if_false]; exact hn m hm
  ·have : j = a := by omega
   subst this
   have d2 : decide ((j : Int) < (j : Int)) = false := by simp
   simp only [Ql, d2, cond_false, Q6 (show i + 1 < 9223372036854775808 by omega), hn m hm, Int.toNat_natCast]
   cases j with
   | zero => rfl
   | succ k => simp [insInner]
 ·have d : decide ((i : Int) < (b : Int)) = false := by simp; omega
  rw [if_neg h]
  simp only [d, cond_false]
theorem Qd9 (a b s i : Nat) (d : Array El) : partialIns ltU a b (s + 1) i d =
  if scanSorted ltU d b i = b then (d, true) else if b - a < 50 then (d, false) else
   partialIns ltU a b s (scanSorted ltU d b i) (fixUp ltU b (scanSorted ltU d b i) (fixDown ltU a (scanSorted ltU d b i) (swp d (scanSorted ltU d b i) (scanSorted ltU d b i - 1)))) := rfl
set_option maxHeartbeats 2000000 in
theorem Qf4 (N : Nat) (l : List El) (a b len : Nat) (hlen : l.length = len) (hab : a < b) (hb : b ≤ len) (hl : len ≤ 1000000000000) (hN : 1000000000000 < N) :
  Q1r N l len a b = some ((partialInsertionSort ltU l.toArray a b).1.toList, (partialInsertionSort ltU l.toArray a b).2) := by
 unfold Q1r partialInsertionSort
 rw [Q6 (by omega)]
 refine (Q3c (G := fun z => some ((partialIns ltU a b (5 - z.1.2.1).toNat z.1.1.toNat z.2.2.2.1.toArray).1.toList, (partialIns ltU a b (5 - z.1.2.1).toNat z.1.1.toNat z.2.2.2.1.toArray).2)) (fun q z => ∃ (i : Nat) (m : List El), z = (((i : Int), (5 : Int) - (q : Int), ()), (), (), m, ()) ∧ m.length = len ∧ a < i ∧ i ≤ b ∧ q ≤ 5) ?_ N 5 _ ⟨a + 1, l, rfl, hlen, by omega, by omega, by omega⟩ (by omega)).trans rfl
 rintro q z rec ⟨i, m, rfl, hm, hai, hib, hq⟩ ih
 have hs0 : ((5 : Int) - ((5 : Int) - (q : Int))).toNat = q := by omega
 simp only [hs0, Int.toNat_natCast]
 cases q with
 | zero => rfl
 | succ s =>
  have dq : decide ((5 : Int) - ((s + 1 : Nat) : Int) < 5) = true := by simp; omega
  have wq : IntKind.i64.wrap ((5 : Int) - ((s + 1 : Nat) : Int) + 1) = (5 : Int) - (s : Int) := by rw [IntWalk.i64_in _ (by omega)]; omega
  have hs1 : ((5 : Int) - ((5 : Int) - (s : Int))).toNat = s := by omega
  have hnext : ∀ (i' : Nat) (m' : List El), m'.length = len → a < i' → i' ≤ b → rec (((i' : Int), (5 : Int) - (s : Int), ()), (), (), m', ()) = some ((partialIns ltU a b s i' m'.toArray).1.toList, (partialIns ltU a b s i' m'.toArray).2) := by
   intro i' m' h1 h2 h3
   have := ih s (((i' : Int), (5 : Int) - (s : Int), ()), (), (), m', ()) (by omega) ⟨i', m', rfl, h1, h2, h3, by omega⟩
   simpa only [hs1, Int.toNat_natCast] using this
  simp only [dq, cond_true, wq]
  refine Qki (fun z => ∃ k : Nat, z = (((k : Int), ()), (), (), ()) ∧ a < k ∧ k ≤ b ∧ scanSorted ltU m.toArray b k = k) (fun z => some ((partialIns ltU a b (s + 1) z.1.1.toNat m.toArray).1.toList, (partialIns ltU a b (s + 1) z.1.1.toNat m.toArray).2)) ?_ ?_
  ·rintro z ⟨k, rfl, hak, hkb, hk⟩
   simp only [Int.toNat_natCast]
   rw [Qd9, hk]
   by_cases e : k = b
   ·subst e
    simp
   ·have eb : ((k : Int) == (b : Int)) = false := by simp; omega
    rw [if_neg e]
    simp only [eb, cond_false, Q5v (show a ≤ b by omega) (show b < 9223372036854775808 by omega)]
    by_cases h50 : b - a < 50
    ·have d50 : decide (((b - a : Nat) : Int) < 50) = true := by simp; omega
     simp [d50, h50]
    ·have d50 : decide (((b - a : Nat) : Int) < 50) = false := by simp; omega
     have f1 : k < m.length := by omega
     have f0 : k - 1 < m.length := by omega
     rw [if_neg h50]
     simp only [d50, cond_false, Qq (show 0 < k by omega) (show k < 9223372036854775808 by omega), ← hm, inR' f1, inR' f0, cond_true, Nat.zero_add, Int.toNat_natCast, List.getElem?_eq_getElem f1, List.getElem?_eq_getElem f0, Option.bind_some, Qr f1 f0, Q4f f1 f0]
     have hm1 : (swL m k (k - 1)).length = len := by rw [Q31, hm]
     rw [swA]
     generalize swL m k (k - 1) = m1 at hm1
     refine Qki (fun z => ∃ m2 : List El, z = ((), (), (), m2, ()) ∧ m2.length = len) (fun z => some ((partialIns ltU a b s k (fixUp ltU b k z.2.2.2.1.toArray)).1.toList, (partialIns ltU a b s k (fixUp ltU b k z.2.2.2.1.toArray)).2)) ?_ ?_
     ·rintro z ⟨m2, rfl, hm2⟩
      simp only [Q5v (show k ≤ b by omega) (show b < 9223372036854775808 by omega), Q6 (show k + 1 < 9223372036854775808 by omega)]
      unfold fixUp
      by_cases h2 : b - k ≥ 2
      ·have d2 : decide ((2 : Int) ≤ ((b - k : Nat) : Int)) = true := by simp; omega
       simp only [d2, cond_true, if_pos h2]
       refine (Q3c (G := fun z => some ((partialIns ltU a b s k (shiftUp ltU b z.1.1.toNat z.2.2.2.1.toArray)).1.toList, (partialIns ltU a b s k (shiftUp ltU b z.1.1.toNat z.2.2.2.1.toArray)).2)) (fun q z => ∃ (j : Nat) (m : List El), z = (((j : Int), ()), (), (), m, ()) ∧ m.length = len ∧ k < j ∧ j ≤ b ∧ q = b - j) ?_ N (b - (k + 1)) _ ⟨k + 1, m2, rfl, hm2, by omega, by omega, rfl⟩ (by omega)).trans (by simp)
       rintro q z rec1 ⟨j, m3, rfl, hm3, hj1, hj2, rfl⟩ ih1
       simp only [Int.toNat_natCast]
       rw [shiftUp]
       by_cases hj : j < b
       ·have g1 : j < m3.length := by omega
        have g0 : j - 1 < m3.length := by omega
        rw [if_pos hj]
        have hr := ih1 (b - (j + 1)) ((((j + 1 : Nat) : Int), ()), (), (), swL m3 j (j - 1), ()) (by omega) ⟨j + 1, _, rfl, by rw [Q31, hm3], by omega, by omega, rfl⟩
        simp only [dlt hj, cond_true, Qq (show 0 < j by omega) (show j < 9223372036854775808 by omega), hm, ← hm3, inR' g1, inR' g0, Nat.zero_add, Int.toNat_natCast, List.getElem?_eq_getElem g1, List.getElem?_eq_getElem g0, Option.bind_some, Q2m, Qr g1 g0, Q4f g1 g0, getA g1, getA g0, Q6 (show j + 1 < 9223372036854775808 by omega), hr, swA]
        cases ltU m3[j] m3[j - 1] with
        | true => simp
        | false => simp only [Bool.not_false, cond_true, if_true]; exact hnext k m3 hm3 (by omega) (by omega)
       ·rw [if_neg hj]
        simp only [dnlt hj, cond_false]
        exact hnext k m3 hm3 (by omega) (by omega)
      ·have d2 : decide ((2 : Int) ≤ ((b - k : Nat) : Int)) = false := by simp; omega
       simp only [d2, cond_false, if_neg h2]
       exact hnext k m2 hm2 (by omega) (by omega)
     ·intro k2 hk2
      simp only [Q5v (show a ≤ k by omega) (show k < 9223372036854775808 by omega)]
      unfold fixDown
      by_cases h2 : k - a ≥ 2
      ·have d2 : decide ((2 : Int) ≤ ((k - a : Nat) : Int)) = true := by simp; omega
       simp only [d2, cond_true, if_pos h2]
       refine (Q3c (G := fun z => some ((partialIns ltU a b s k (fixUp ltU b k (shiftDown ltU z.1.1.toNat z.2.2.2.1.toArray))).1.toList, (partialIns ltU a b s k (fixUp ltU b k (shiftDown ltU z.1.1.toNat z.2.2.2.1.toArray))).2)) (fun q z => ∃ (m : List El), z = (((q : Int), ()), (), (), m, ()) ∧ m.length = len ∧ q < len) ?_ N (k - 1) _ ⟨m1, rfl, hm1, by omega⟩ (by omega)).trans (by simp)
       rintro j z rec1 ⟨m3, rfl, hm3, hj⟩ ih1
       simp only [Int.toNat_natCast]
       cases j with
       | zero =>
        have d1 : decide ((1 : Int) ≤ ((0 : Nat) : Int)) = false := by decide
        simp only [d1, cond_false]
        exact hk2 ((), (), (), m3, ()) ⟨m3, rfl, hm3⟩
       | succ j =>
        have d1 : decide ((1 : Int) ≤ ((j + 1 : Nat) : Int)) = true := by simp; omega
        have g1 : j + 1 < m3.length := by omega
        have g0 : j < m3.length := by omega
        have w : IntKind.i64.wrap (((j + 1 : Nat) : Int) - 1) = (j : Int) := by rw [Qq (by omega) (by omega)]; rfl
        rw [shiftDown]
        have hr := ih1 j (((j : Int), ()), (), (), swL m3 (j + 1) j, ()) (by omega) ⟨_, rfl, by rw [Q31, hm3], by omega⟩
        simp only [d1, cond_true, w, hm, ← hm3, inR' g1, inR' g0, Nat.zero_add, Int.toNat_natCast, List.getElem?_eq_getElem g1, List.getElem?_eq_getElem g0, Option.bind_some, Q2m, Qr g1 g0, Q4f g1 g0, getA g1, getA g0, hr, swA]
        cases ltU m3[j + 1] m3[j] with
        | true => simp
        | false => simp only [Bool.not_false, cond_true, if_true]; exact hk2 ((), (), (), m3, ()) ⟨m3, rfl, hm3⟩
      ·have d2 : decide ((2 : Int) ≤ ((k - a : Nat) : Int)) = false := by simp; omega
       simp only [d2, cond_false, if_neg h2]
       exact hk2 ((), (), (), m1, ()) ⟨m1, rfl, hm1⟩
  ·intro k hk
   refine (Q3c (G := fun z => some ((partialIns ltU a b (s + 1) z.1.1.toNat m.toArray).1.toList, (partialIns ltU a b (s + 1) z.1.1.toNat m.toArray).2)) (fun q z => ∃ (j : Nat), z = (((j : Int), ()), (), (), ()) ∧ a < j ∧ j ≤ b ∧ q = b - j) ?_ N (b - i) _ ⟨i, rfl, by omega, by omega, rfl⟩ (by omega)).trans (by simp)
   rintro q z rec1 ⟨j, rfl, hj1, hj2, rfl⟩ ih1
   simp only [Int.toNat_natCast]
   by_cases hj : j < b
   ·have g1 : j < m.length := by omega
    have g0 : j - 1 < m.length := by omega
    have hr := ih1 (b - (j + 1)) ((((j + 1 : Nat) : Int), ()), (), (), ()) (by omega) ⟨j + 1, rfl, by omega, by omega, rfl⟩
    simp only [dlt hj, cond_true, Qq (show 0 < j by omega) (show j < 9223372036854775808 by omega), ← hm, inR' g1, inR' g0, Nat.zero_add, Int.toNat_natCast, List.getElem?_eq_getElem g1, List.getElem?_eq_getElem g0, Option.bind_some, Q2m, Q6 (show j + 1 < 9223372036854775808 by omega), hr]
    cases hlt : ltU m[j] m[j - 1] with
    | true =>
     simp only [Bool.not_true, cond_false]
     have hst : scanSorted ltU m.toArray b j = j := by rw [scanSorted, getA g1, getA g0, hlt]; simp
     exact hk (((j : Int), ()), (), (), ()) ⟨j, rfl, hj1, hj2, hst⟩
    | false =>
     simp only [Bool.not_false, cond_true]
     have hst : scanSorted ltU m.toArray b j = scanSorted ltU m.toArray b (j + 1) := by rw [scanSorted, getA g1, getA g0, hlt]; simp [hj]
     rw [Qd9 a b s j, Qd9 a b s (j + 1), hst]
   ·simp only [dnlt hj, cond_false]
    have hst : scanSorted ltU m.toArray b j = j := by rw [scanSorted]; simp [hj]
    exact hk (((j : Int), ()), (), (), ()) ⟨j, rfl, hj1, hj2, hst⟩
theorem up_eq {R : Type} (p : El → Bool) (d : Array El) (j i0 : Nat) (k : St1 → Option R) {f : (St1 → Option R) → St1 → Option R} (hs : ∀ rec (i : Nat), i0 ≤ i → f rec (st1 i) = if (decide (i ≤ j) && p d[i]!) = true then rec (st1 (i + 1)) else k (st1 i))
  (N : Nat) (hN : j + 1 < N) (i : Nat) (hi : i0 ≤ i) : iter f N (st1 i) = k (st1 (scanUp p d j i)) := by
 refine (Q3c (G := fun z => k (st1 (scanUp p d j z.1.1.toNat))) (fun q z => ∃ i : Nat, z = st1 i ∧ i0 ≤ i ∧ q = j + 1 - i) ?_ N (j + 1 - i) _ ⟨i, rfl, hi, rfl⟩ (by omega)).trans (by simp)
 rintro q z rec ⟨i, rfl, hi, rfl⟩ ih
 rw [hs rec i hi]
 simp only [Int.toNat_natCast]
 rw [scanUp]
 by_cases h : (decide (i ≤ j) && p d[i]!) = true
 ·have hij : i ≤ j := by simp at h; exact h.1
  rw [if_pos h, if_pos h, ih (j + 1 - (i + 1)) (st1 (i + 1)) (by omega) ⟨i + 1, rfl, by omega, rfl⟩]
  simp
 ·rw [if_neg h, if_neg h]
theorem Qot {R : Type} (p : El → Bool) (d : Array El) (i b : Nat) (h1 : 1 ≤ i) (k : St1 → Option R) {f : (St1 → Option R) → St1 → Option R} (hs : ∀ rec (j : Nat), j < b → f rec (st1 j) = if (decide (i ≤ j) && p d[j]!) = true then rec (st1 (j - 1)) else k (st1 j))
  (N : Nat) (hN : b < N) (j : Nat) (hj : j < b) : iter f N (st1 j) = k (st1 (scanDown p d i j)) := by
 refine (Q3c (G := fun z => k (st1 (scanDown p d i z.1.1.toNat))) (fun q z => z = st1 q ∧ q < b) ?_ N j _ ⟨rfl, hj⟩ (by omega)).trans (by simp)
 rintro q z rec ⟨rfl, hq⟩ ih
 rw [hs rec q hq]
 simp only [Int.toNat_natCast]
 cases q with
 | zero =>
  have h : ¬ ((decide (i ≤ 0) && p d[0]!) = true) := by simp; omega
  rw [if_neg h, scanDown]
 | succ q =>
  rw [scanDown]
  by_cases h : (decide (i ≤ q + 1) && p d[q + 1]!) = true
  ·rw [if_pos h, if_pos h, show q + 1 - 1 = q from rfl, ih q (st1 q) (by omega) ⟨rfl, by omega⟩]
   simp
  ·rw [if_neg h, if_neg h]
theorem Qhm (p : El → Bool) (d : Array El) (j i : Nat) (h : i ≤ j + 1) : scanUp p d j i ≤ j + 1 := (scanUp_spec p d j _ i rfl).2.1 h
theorem Qef (p : El → Bool) (d : Array El) (i j : Nat) (h : i ≤ j + 1) : i ≤ scanDown p d i j + 1 := (scanDown_spec p d i j).2.1 h
set_option maxHeartbeats 2000000 in
theorem Qlm (N : Nat) (l : List El) (a b p len : Nat) (hlen : l.length = len) (hap : a ≤ p) (hpb : p < b) (hb : b ≤ len) (hl : len ≤ 1000000000000) (hN : 1000000000000 < N) :
  Q3o N l len a b p = some ((partitionEqual ltU l.toArray a b p).2.toList, ((partitionEqual ltU l.toArray a b p).1 : Int)) := by
 unfold Q3o partitionEqual
 have fa : a < l.length := by omega
 have fp : p < l.length := by omega
 simp only [← hlen, inR' fa, inR' fp, cond_true, Nat.zero_add, Int.toNat_natCast, List.getElem?_eq_getElem fa, List.getElem?_eq_getElem fp, Option.bind_some, Qr fa fp, Q4f fa fp, Q6 (show a + 1 < 9223372036854775808 by omega), Qq (show 0 < b by omega) (show b < 9223372036854775808 by omega)]
 have hm0 : (swL l a p).length = len := by rw [Q31, hlen]
 rw [swA]
 generalize swL l a p = m0 at hm0
 rw [hlen]
 refine (Q3c (G := fun z => some ((partEqLoop ltU a z.1.1.toNat z.1.2.1.toNat z.2.2.2.1.toArray).2.toList, ((partEqLoop ltU a z.1.1.toNat z.1.2.1.toNat z.2.2.2.1.toArray).1 : Int))) (fun q z => ∃ (i j : Nat) (m : List El), z = (((i : Int), (j : Int), ()), (), (), m, ()) ∧ m.length = len ∧ a < i ∧ i ≤ j + 1 ∧ j < b ∧ q = j + 1 - i) ?_ N (b - 1 + 1 - (a + 1)) _ ⟨a + 1, b - 1, m0, rfl, hm0, by omega, by omega, by omega, rfl⟩ (by omega)).trans (by simp)
 rintro q z rec ⟨i, j, m, rfl, hm, hai, hij, hjb, rfl⟩ ih
 simp only [Int.toNat_natCast]
 rw [partEqLoop_eq]
 have ga : a < m.length := by omega
 have u1 := scanUp_ge (fun x => !ltU m.toArray[a]! x) m.toArray j i
 have w1 := (scanUp_spec (fun x => !ltU m.toArray[a]! x) m.toArray j _ i rfl).2.2.2
 have u2 := Qhm (fun x => !ltU m.toArray[a]! x) m.toArray j i hij
 refine (Qaj _ fun k => up_eq (fun x => !ltU m.toArray[a]! x) m.toArray j (a + 1) k ?_ N (by omega) i hai).trans ?_
 ·intro rec1 i1 hi1
  by_cases h : i1 ≤ j
  ·have g1 : i1 < m.length := by omega
   simp only [dle h, cond_true, ← hm, inR' ga, inR' g1, Nat.zero_add, Int.toNat_natCast, List.getElem?_eq_getElem ga, List.getElem?_eq_getElem g1, Option.bind_some, Q2m, getA ga, getA g1, Q6 (show i1 + 1 < 9223372036854775808 by omega), decide_eq_true h, Bool.true_and]
   cases ltU m[a] m[i1] <;> rfl
  ·simp [dnle h, h]
 generalize scanUp (fun x => !ltU m.toArray[a]! x) m.toArray j i = i2 at u1 u2 w1 ⊢
 have v1 := scanDown_le (fun x => ltU m.toArray[a]! x) m.toArray i2 j
 have w2 := (scanDown_spec (fun x => ltU m.toArray[a]! x) m.toArray i2 j).2.2.2
 have v2 := Qef (fun x => ltU m.toArray[a]! x) m.toArray i2 j u2
 refine (Qaj _ fun k => Qot (fun x => ltU m.toArray[a]! x) m.toArray i2 b (by omega) k ?_ N (by omega) j hjb).trans ?_
 ·intro rec1 j1 hj1
  by_cases h : i2 ≤ j1
  ·have g1 : j1 < m.length := by omega
   simp only [dle h, cond_true, ← hm, inR' ga, inR' g1, Nat.zero_add, Int.toNat_natCast, List.getElem?_eq_getElem ga, List.getElem?_eq_getElem g1, Option.bind_some, Q2m, getA ga, getA g1, Qq (show 0 < j1 by omega) (show j1 < 9223372036854775808 by omega), decide_eq_true h, Bool.true_and]
   cases ltU m[a] m[j1] <;> rfl
  ·simp [dnle h, h]
 generalize scanDown (fun x => ltU m.toArray[a]! x) m.toArray i2 j = j2 at v1 v2 w2 ⊢
 by_cases h : i2 > j2
 ·simp only [dlt h, cond_true, if_pos h]
 ·have hne : i2 < j2 := by
   rcases Nat.lt_or_ge i2 j2 with h3 | h3
   ·exact h3
   ·have e : j2 = i2 := by omega
    subst e
    have := w1 (by omega)
    have h4 := w2 (Nat.le_refl _) (by omega)
    generalize ltU m.toArray[a]! m.toArray[j2]! = v at this h4; cases v <;> simp at this h4
  have g1 : i2 < m.length := by omega
  have g2 : j2 < m.length := by omega
  have hr := ih (j2 - 1 + 1 - (i2 + 1)) ((((i2 + 1 : Nat) : Int), ((j2 - 1 : Nat) : Int), ()), (), (), swL m i2 j2, ()) (by omega) ⟨i2 + 1, j2 - 1, _, rfl, by rw [Q31, hm], by omega, by omega, by omega, rfl⟩
  simp only [Int.toNat_natCast] at hr
  simp only [dnlt h, cond_false, if_neg h, ← hm, inR' g1, inR' g2, cond_true, Nat.zero_add, Int.toNat_natCast, List.getElem?_eq_getElem g1, List.getElem?_eq_getElem g2, Option.bind_some, Qr g1 g2, Q4f g1 g2, Q6 (show i2 + 1 < 9223372036854775808 by omega), Qq (show 0 < j2 by omega) (show j2 < 9223372036854775808 by omega), hr, swA]
set_option maxHeartbeats 4000000 in
theorem Qtj (N : Nat) (l : List El) (a b p len : Nat) (hlen : l.length = len) (hap : a ≤ p) (hpb : p < b) (hb : b ≤ len) (hl : len ≤ 1000000000000) (hN : 1000000000000 < N) :
  Q5e N l len a b p = some ((partition ltU l.toArray a b p).2.2.toList, ((partition ltU l.toArray a b p).1 : Int), (partition ltU l.toArray a b p).2.1) := by
 unfold Q5e partition
 have fa : a < l.length := by omega
 have fp : p < l.length := by omega
 simp only [← hlen, inR' fa, inR' fp, cond_true, Nat.zero_add, Int.toNat_natCast, List.getElem?_eq_getElem fa, List.getElem?_eq_getElem fp, Option.bind_some, Qr fa fp, Q4f fa fp, Q6 (show a + 1 < 9223372036854775808 by omega), Qq (show 0 < b by omega) (show b < 9223372036854775808 by omega)]
 have hm : (swL l a p).length = len := by rw [Q31, hlen]
 rw [swA]
 generalize swL l a p = m at hm
 rw [hlen]
 have ga : a < m.length := by omega
 have u1 := scanUp_ge (fun x => ltU x m.toArray[a]!) m.toArray (b - 1) (a + 1)
 have w1 := (scanUp_spec (fun x => ltU x m.toArray[a]!) m.toArray (b - 1) _ (a + 1) rfl).2.2.2
 have u2 := Qhm (fun x => ltU x m.toArray[a]!) m.toArray (b - 1) (a + 1) (by omega)
 refine (Qaj _ fun k => up_eq (fun x => ltU x m.toArray[a]!) m.toArray (b - 1) (a + 1) k ?_ N (by omega) (a + 1) (Nat.le_refl _)).trans ?_
 ·intro rec1 i1 hi1
  by_cases h : i1 ≤ b - 1
  ·have g1 : i1 < m.length := by omega
   simp only [dle h, cond_true, ← hm, inR' ga, inR' g1, Nat.zero_add, Int.toNat_natCast, List.getElem?_eq_getElem ga, List.getElem?_eq_getElem g1, Option.bind_some, Q2m, getA ga, getA g1, Q6 (show i1 + 1 < 9223372036854775808 by omega), decide_eq_true h, Bool.true_and]
   cases ltU m[i1] m[a] <;> rfl
  ·simp [dnle h, h]
 generalize scanUp (fun x => ltU x m.toArray[a]!) m.toArray (b - 1) (a + 1) = i2 at u1 u2 w1 ⊢
 have v1 := scanDown_le (fun x => !ltU x m.toArray[a]!) m.toArray i2 (b - 1)
 have w2 := (scanDown_spec (fun x => !ltU x m.toArray[a]!) m.toArray i2 (b - 1)).2.2.2
 have v2 := Qef (fun x => !ltU x m.toArray[a]!) m.toArray i2 (b - 1) u2
 refine (Qaj _ fun k => Qot (fun x => !ltU x m.toArray[a]!) m.toArray i2 b (by omega) k ?_ N (by omega) (b - 1) (by omega)).trans ?_
 ·intro rec1 j1 hj1
  by_cases h : i2 ≤ j1
  ·have g1 : j1 < m.length := by omega
   simp only [dle h, cond_true, ← hm, inR' ga, inR' g1, Nat.zero_add, Int.toNat_natCast, List.getElem?_eq_getElem ga, List.getElem?_eq_getElem g1, Option.bind_some, Q2m, getA ga, getA g1, Qq (show 0 < j1 by omega) (show j1 < 9223372036854775808 by omega), decide_eq_true h, Bool.true_and]
   cases ltU m[j1] m[a] <;> rfl
  ·simp [dnle h, h]
 generalize scanDown (fun x => !ltU x m.toArray[a]!) m.toArray i2 (b - 1) = j2 at v1 v2 w2 ⊢
 have gj : j2 < m.length := by omega
 by_cases h : i2 > j2
 ·simp only [dlt h, cond_true, if_pos h, ← hm, inR' ga, inR' gj, Nat.zero_add, Int.toNat_natCast, List.getElem?_eq_getElem ga, List.getElem?_eq_getElem gj, Option.bind_some, Qr gj ga, Q4f gj ga, swA]
 ·have hne : i2 < j2 := by
   rcases Nat.lt_or_ge i2 j2 with h3 | h3
   ·exact h3
   ·have e : j2 = i2 := by omega
    subst e
    have := w1 (by omega)
    have h4 := w2 (Nat.le_refl _) (by omega)
    generalize ltU m.toArray[j2]! m.toArray[a]! = v at this h4; cases v <;> simp at this h4
  have gi : i2 < m.length := by omega
  simp only [dnlt h, cond_false, if_neg h, ← hm, inR' gi, inR' gj, cond_true, Nat.zero_add, Int.toNat_natCast, List.getElem?_eq_getElem gi, List.getElem?_eq_getElem gj, Option.bind_some, Qr gi gj, Q4f gi gj, Q6 (show i2 + 1 < 9223372036854775808 by omega), Qq (show 0 < j2 by omega) (show j2 < 9223372036854775808 by omega), swA]
  rw [hm]
  have hm1 : (swL m i2 j2).length = len := by rw [Q31, hm]
  generalize swL m i2 j2 = m1 at hm1
  refine Qki (fun z => ∃ (j : Nat) (m : List El), z = (((j : Int), ()), (), (), m, ()) ∧ m.length = len ∧ a ≤ j ∧ j < b) (fun z => some ((swp z.2.2.2.1.toArray z.1.1.toNat a).toList, ((z.1.1.toNat : Nat) : Int), false)) ?_ ?_
  ·rintro z ⟨j, m3, rfl, hm3, haj, hjb⟩
   have g1 : a < m3.length := by omega
   have g2 : j < m3.length := by omega
   simp only [← hm3, inR' g1, inR' g2, cond_true, Nat.zero_add, Int.toNat_natCast, List.getElem?_eq_getElem g1, List.getElem?_eq_getElem g2, Option.bind_some, Qr g2 g1, Q4f g2 g1, swA]
  ·intro k hk
   refine (Q3c (G := fun z => some ((swp (partLoop ltU a z.1.1.toNat z.1.2.1.toNat z.2.2.2.1.toArray).2 (partLoop ltU a z.1.1.toNat z.1.2.1.toNat z.2.2.2.1.toArray).1 a).toList, ((partLoop ltU a z.1.1.toNat z.1.2.1.toNat z.2.2.2.1.toArray).1 : Int), false)) (fun q z => ∃ (i j : Nat) (m : List El), z = (((i : Int), (j : Int), ()), (), (), m, ()) ∧ m.length = len ∧ a < i ∧ i ≤ j + 1 ∧ j < b ∧ q = j + 1 - i) ?_ N (j2 - 1 + 1 - (i2 + 1)) _ ⟨i2 + 1, j2 - 1, m1, rfl, hm1, by omega, by omega, by omega, rfl⟩ (by omega)).trans (by simp)
   rintro q z rec ⟨i, j, m, rfl, hm, hai, hij, hjb, rfl⟩ ih
   simp only [Int.toNat_natCast]
   rw [partLoop_eq]
   have ga : a < m.length := by omega
   have u1 := scanUp_ge (fun x => ltU x m.toArray[a]!) m.toArray j i
   have w1 := (scanUp_spec (fun x => ltU x m.toArray[a]!) m.toArray j _ i rfl).2.2.2
   have u2 := Qhm (fun x => ltU x m.toArray[a]!) m.toArray j i hij
   refine (Qaj _ fun k => up_eq (fun x => ltU x m.toArray[a]!) m.toArray j (a + 1) k ?_ N (by omega) i hai).trans ?_
   ·intro rec1 i1 hi1
    by_cases h : i1 ≤ j
    ·have g1 : i1 < m.length := by omega
     simp only [dle h, cond_true, ← hm, inR' ga, inR' g1, Nat.zero_add, Int.toNat_natCast, List.getElem?_eq_getElem ga, List.getElem?_eq_getElem g1, Option.bind_some, Q2m, getA ga, getA g1, Q6 (show i1 + 1 < 9223372036854775808 by omega), decide_eq_true h, Bool.true_and]
     cases ltU m[i1] m[a] <;> rfl
    ·simp [dnle h, h]
   generalize scanUp (fun x => ltU x m.toArray[a]!) m.toArray j i = i3 at u1 u2 w1 ⊢
   have v1 := scanDown_le (fun x => !ltU x m.toArray[a]!) m.toArray i3 j
   have w2 := (scanDown_spec (fun x => !ltU x m.toArray[a]!) m.toArray i3 j).2.2.2
   have v2 := Qef (fun x => !ltU x m.toArray[a]!) m.toArray i3 j u2
   refine (Qaj _ fun k => Qot (fun x => !ltU x m.toArray[a]!) m.toArray i3 b (by omega) k ?_ N (by omega) j hjb).trans ?_
   ·intro rec1 j1 hj1
    by_cases h : i3 ≤ j1
    ·have g1 : j1 < m.length := by omega
     simp only [dle h, cond_true, ← hm, inR' ga, inR' g1, Nat.zero_add, Int.toNat_natCast, List.getElem?_eq_getElem ga, List.getElem?_eq_getElem g1, Option.bind_some, Q2m, getA ga, getA g1, Qq (show 0 < j1 by omega) (show j1 < 9223372036854775808 by omega), decide_eq_true h, Bool.true_and]
     cases ltU m[j1] m[a] <;> rfl
    ·simp [dnle h, h]
   generalize scanDown (fun x => !ltU x m.toArray[a]!) m.toArray i3 j = j3 at v1 v2 w2 ⊢
   by_cases h : i3 > j3
   ·simp only [dlt h, cond_true, if_pos h]
    refine (hk (((j3 : Int), ()), (), (), m, ()) ⟨j3, m, rfl, hm, by omega, by omega⟩).trans ?_
    simp
   ·have hne : i3 < j3 := by
     rcases Nat.lt_or_ge i3 j3 with h3 | h3
     ·exact h3
     ·have e : j3 = i3 := by omega
      subst e
      have := w1 (by omega)
      have h4 := w2 (Nat.le_refl _) (by omega)
      generalize ltU m.toArray[j3]! m.toArray[a]! = v at this h4; cases v <;> simp at this h4
    have g1 : i3 < m.length := by omega
    have g2 : j3 < m.length := by omega
    have hr := ih (j3 - 1 + 1 - (i3 + 1)) ((((i3 + 1 : Nat) : Int), ((j3 - 1 : Nat) : Int), ()), (), (), swL m i3 j3, ()) (by omega) ⟨i3 + 1, j3 - 1, _, rfl, by rw [Q31, hm], by omega, by omega, by omega, rfl⟩
    simp only [Int.toNat_natCast] at hr
    simp only [dnlt h, cond_false, if_neg h, ← hm, inR' g1, inR' g2, cond_true, Nat.zero_add, Int.toNat_natCast, List.getElem?_eq_getElem g1, List.getElem?_eq_getElem g2, Option.bind_some, Qr g1 g2, Q4f g1 g2, Q6 (show i3 + 1 < 9223372036854775808 by omega), Qq (show 0 < j3 by omega) (show j3 < 9223372036854775808 by omega), hr, swA]
set_option maxHeartbeats 1000000 in
set_option maxHeartbeats 1000000 in
theorem Qmj (N : Nat) (l : List El) (a b len : Nat) (hab : a < b) (hlen : l.length = len) (hb : b ≤ len) (hl : len ≤ 1000000000000) (hN : 1000000000000 < N) :
  ∃ l', Q35 N l len a b = some (l', ()) ∧ PermL a b l l' := by
 suffices H : ∃ r, Q35 N l len a b = some r ∧ ∃ l', r = (l', ()) ∧ PermL a b l l' by
  obtain ⟨r, h1, l', rfl, h2⟩ := H
  exact ⟨l', h1, h2⟩
 unfold Q35
 simp only [Q5v (show a ≤ b by omega) (show b < 9223372036854775808 by omega)]
 by_cases h8 : 8 ≤ b - a
 ·have d8 : decide ((8 : Int) ≤ ((b - a : Nat) : Int)) = true := by simp; omega
  obtain ⟨m, e, m1, m2⟩ := Q12j N (b - a) (by omega) (by omega)
  simp only [d8, cond_true, e, Option.bind_some]
  have e4 : ((b - a : Nat) : Int).tdiv 4 = (((b - a) / 4 : Nat) : Int) := by
   rw [Int.tdiv_eq_ediv_of_nonneg (by omega)]; omega
  have e2 : IntKind.i64.wrap ((((b - a) / 4 : Nat) : Int) * 2) = (((b - a) / 4 * 2 : Nat) : Int) := by
   rw [show (((b - a) / 4 : Nat) : Int) * 2 = (((b - a) / 4 * 2 : Nat) : Int) by omega, Q5j (by omega)]
  have eM : IntKind.u64.wrap ((m : Int) - 1) = ((m - 1 : Nat) : Int) := by
   rw [show (m : Int) - 1 = ((m - 1 : Nat) : Int) by omega, Qg5 (by omega)]
  rw [e4, Q5j (show (b - a) / 4 < 9223372036854775808 by omega), e2, natA (show a + (b - a) / 4 * 2 ≤ 4000000000000 by omega)]
  have hq : (b - a) / 4 * 2 ≤ b - a - 2 := by omega
  have hq2 : 2 ≤ (b - a) / 4 * 2 := by omega
  generalize (b - a) / 4 * 2 = v at hq hq2
  rw [Qq (show 0 < a + v by omega) (by omega), Q6 (show a + v + 1 < 9223372036854775808 by omega)]
  simp only [eM]
  refine Q4q (Q := fun r : List El × Unit => ∃ l', r = (l', ()) ∧ PermL a b l l') (fun q z => ∃ (i : Nat) (s : Int) (m : List El), z = (((i : Int), ()), ((s, ()), ()), (), m, ()) ∧ a ≤ i ∧ i ≤ a + v + 2 ∧ q = a + v + 2 - i ∧ PermL a b l m) ?_ N (a + v + 2 - (a + v - 1)) _
   ⟨a + v - 1, _, l, rfl, by omega, by omega, rfl, .refl _ _ _⟩ (by omega)
  rintro q z rec ⟨i, s, l1, rfl, h1, h2, rfl, hp⟩ ih
  have hl1 : l1.length = len := by rw [hp.len, hlen]
  by_cases hi : i ≤ a + v + 1
  ·simp only [dle hi, cond_true, Q41, Option.bind_some]
   generalize hs : bits BinOp.xor IntKind.u64 (bits BinOp.xor IntKind.u64 (bits BinOp.xor IntKind.u64 s (IntKind.u64.wrap (s * 8192))) ((bits BinOp.xor IntKind.u64 s (IntKind.u64.wrap (s * 8192))).fdiv 128)) (IntKind.u64.wrap (bits BinOp.xor IntKind.u64 (bits BinOp.xor IntKind.u64 s (IntKind.u64.wrap (s * 8192))) ((bits BinOp.xor IntKind.u64 s (IntKind.u64.wrap (s * 8192))).fdiv 128) * 131072)) = s'
   obtain ⟨o, eo, ho⟩ := Q12i s' (m - 1) (by omega)
   simp only [eo, Q5j (show o < 9223372036854775808 by omega)]
   refine Q90 (fun z => ∃ (o : Nat), z = (((o : Int), ()), (), (), ()) ∧ o < b - a) ?_ ?_
   ·rintro z ⟨o, rfl, ho⟩
    have gi : i < l1.length := by omega
    have go : a + o < l1.length := by omega
    simp only [natA (show a + o ≤ 4000000000000 by omega), ← hl1, inR' gi, inR' go, cond_true, Nat.zero_add, Int.toNat_natCast, List.getElem?_eq_getElem gi, List.getElem?_eq_getElem go, Option.bind_some, Qr gi go, Q4f gi go, Q6 (show i + 1 < 9223372036854775808 by omega)]
    exact ih (a + v + 2 - (i + 1)) _ (by omega) ⟨i + 1, _, swL l1 i (a + o), rfl, by omega, by omega, rfl, hp.trans (.swap h1 (by omega) (by omega) (by omega) (by omega))⟩
   ·intro k hk
    by_cases ho2 : b - a ≤ o
    ·simp only [dle ho2, cond_true, Q5v ho2 (show o < 9223372036854775808 by omega)]
     exact hk _ ⟨o - (b - a), rfl, by omega⟩
    ·simp only [dnle ho2, cond_false]
     exact hk _ ⟨o, rfl, by omega⟩
  ·simp only [dnle hi, cond_false]
   exact ⟨_, rfl, l1, rfl, hp⟩
 ·have d8 : decide ((8 : Int) ≤ ((b - a : Nat) : Int)) = false := by simp; omega
  simp only [d8, cond_false]
  exact ⟨_, rfl, l, rfl, .refl _ _ _⟩
theorem Qe7 : SWO (ltU (El := El)) := OrdS.swo
def Qe5 (a b : Nat) (l : List El) : Prop := SortedIn ltU a b l.toArray
def Q9w (a b : Nat) (l : List El) : Prop := Below ltU a b l.toArray
def SQ (A B : Nat) (l : List El) (r : List El × Unit) : Prop := ∃ l', r = (l', ()) ∧ PermL A B l l' ∧ Qe5 A B l'
def Fin (A B : Nat) (l : List El) (a b : Nat) (m : List El) : Prop := ∀ R, PermL a b m R → Qe5 a b R → PermL A B l R ∧ Qe5 A B R
theorem PermL.below {a b : Nat} {l m : List El} (h : PermL a b l m) (hb : b ≤ l.length) (hB : Q9w a b l) : Q9w a b m :=
 Below.perm (α := El) hB (by simpa using hb) h
theorem Qo6 (l : List El) (a b : Nat) (hab : a ≤ b) (hb : b ≤ l.length) : PermL a b l (insertionSort ltU l.toArray a b).toList ∧ Qe5 a b (insertionSort ltU l.toArray a b).toList := by
 have := insertionSort_holds (lt := ltU) Qe7 l.toArray a b hab (by simpa using hb)
 exact ⟨this.1, this.2⟩
theorem Qxq (l : List El) (a b : Nat) (hab : a ≤ b) (hb : b ≤ l.length) : PermL a b l (heapSort ltU l.toArray a b).toList ∧ Qe5 a b (heapSort ltU l.toArray a b).toList := by
 have := heapSort_holds (lt := ltU) Qe7 l.toArray a b hab (by simpa using hb)
 exact ⟨this.1, this.2⟩
theorem Qr5 (l : List El) (a b : Nat) (hab : a < b) (hb : b ≤ l.length) (hB : Q9w a b l) : PermL a b l (partialInsertionSort ltU l.toArray a b).1.toList ∧ ((partialInsertionSort ltU l.toArray a b).2 = true → Qe5 a b (partialInsertionSort ltU l.toArray a b).1.toList) := by
 have := partialInsertionSort_holds (lt := ltU) Qe7 l.toArray a b hab (by simpa using hb) hB
 exact ⟨this.1, this.2⟩
section
variable {N len : Nat} {G : Nat → List El → Nat → Int → Int → Int → Option (List El × Unit)}
theorem Qy1 (A B : Nat) (l : List El) (rec : (Int × Int × Int × Bool × Bool × Unit) × Unit × Unit × List El × Unit → Option (List El × Unit)) (H : List El → Nat → Int → Int → Int → Option (List El × Unit))
  (a b p : Nat) (lim : Int) (m : List El) (hm : m.length = len) (hap : a ≤ p) (hpb : p < b) (hb : b ≤ len) (hl : len ≤ 1000000000000) (hN : 1000000000000 < N) (hB : Q9w a b m) (hF : Fin A B l a b m)
  (ih : ∀ (a' b' : Nat) (lim' : Int) (wb wp : Bool) (m' : List El), b' - a' < b - a → m'.length = len → a' ≤ b' → b' ≤ len → Q9w a' b' m' → Fin A B l a' b' m' → ∃ r, rec (((a' : Int), (b' : Int), lim', wb, wp, ()), (), (), m', ()) = some r ∧ SQ A B l r)
  (hH : ∀ (a' b' : Nat) (lim' : Int) (m' : List El), b' - a' < b - a → m'.length = len → a' ≤ b' → b' ≤ len → Q9w a' b' m' → ∃ r, H m' len a' b' lim' = some r ∧ SQ a' b' m' r) :
  ∃ r, (Option.bind (Q5e N m len a b p) fun (y : List El × Int × Bool) =>
   bif decide (IntKind.i64.wrap (y.snd.fst - (a : Int)) < IntKind.i64.wrap ((b : Int) - y.snd.fst)) then
    (H y.fst len a y.snd.fst lim).bind fun (y_1 : List El × Unit) =>
     rec ((IntKind.i64.wrap (y.snd.fst + 1), (b : Int), lim, decide (IntKind.i64.wrap ((IntKind.i64.wrap ((b : Int) - (a : Int))).tdiv 8) ≤ IntKind.i64.wrap (y.snd.fst - (a : Int))), y.snd.snd, ()), (), (), y_1.fst, ())
   else
    (H y.fst len (IntKind.i64.wrap (y.snd.fst + 1)) b lim).bind fun (y_1 : List El × Unit) =>
     rec (((a : Int), y.snd.fst, lim, decide (IntKind.i64.wrap ((IntKind.i64.wrap ((b : Int) - (a : Int))).tdiv 8) ≤ IntKind.i64.wrap ((b : Int) - y.snd.fst)), y.snd.snd, ()), (), (), y_1.fst, ())) = some r ∧ SQ A B l r := by
 rw [Qtj N m a b p len hm hap hpb hb hl hN, Option.bind_some]
 have hbm : b ≤ m.toArray.size := by simp; omega
 obtain ⟨h1, h2, hs, hBa, hBr, hL, hR⟩ := round_part (lt := ltU) Qe7 (partition_holds ltU) (d3 := m.toArray) (a := a) (b := b) (pivot := p) (mid := (partition ltU m.toArray a b p).1) (ap := (partition ltU m.toArray a b p).2.1) (d4 := (partition ltU m.toArray a b p).2.2) hap hpb hbm hB rfl
 generalize (partition ltU m.toArray a b p).1 = mid at *
 generalize (partition ltU m.toArray a b p).2.1 = ap at *
 generalize (partition ltU m.toArray a b p).2.2 = d4 at *
 have hs4 : d4.toList.length = len := by rw [Array.length_toList, hs]; simpa using hm
 simp only [Q5v (show a ≤ mid by omega) (show mid < 9223372036854775808 by omega), Q5v (show mid ≤ b by omega) (show b < 9223372036854775808 by omega), Q6 (show mid + 1 < 9223372036854775808 by omega)]
 by_cases hlt : mid - a < b - mid
 ·simp only [dlt hlt, cond_true]
  obtain ⟨r, e, l', rfl, q1, q2⟩ := hH a mid lim d4.toList (by omega) hs4 h1 (by omega) hBa
  rw [e, Option.bind_some]
  obtain ⟨hB2, hfin⟩ := hL l'.toArray q1 q2
  refine ih (mid + 1) b lim _ _ l' (by omega) (by rw [q1.len, hs4]) (by omega) hb hB2 fun R hR1 hR2 => ?_
  obtain ⟨c1, c2⟩ := hfin R.toArray hR1 hR2
  exact hF R c1 c2
 ·simp only [dnlt hlt, cond_false]
  obtain ⟨r, e, l', rfl, q1, q2⟩ := hH (mid + 1) b lim d4.toList (by omega) hs4 (by omega) hb hBr
  rw [e, Option.bind_some]
  obtain ⟨hB2, hfin⟩ := hR l'.toArray q1 q2
  refine ih a mid lim _ _ l' (by omega) (by rw [q1.len, hs4]) h1 (by omega) hB2 fun R hR1 hR2 => ?_
  obtain ⟨c1, c2⟩ := hfin R.toArray hR1 hR2
  exact hF R c1 c2
end
set_option maxHeartbeats 2000000 in
theorem Q13d (N len : Nat) (hl : len ≤ 1000000000000) (hN : 1000000000000 < N) : ∀ (n : Nat) (l : List El) (a b : Nat) (lim : Int), b - a < n → l.length = len → a ≤ b → b ≤ len → Q9w a b l →
  ∃ r, recG (Q4n (El := El) N) n l len a b lim = some r ∧ SQ a b l r := by
 intro n
 induction n with
 | zero => intro l a b lim h; omega
 | succ n ihn =>
  intro l A B lim0 hn hlen hAB hBl hBel
  show ∃ r, Q4n (El := El) N (recG (Q4n (El := El) N) n) l len A B lim0 = some r ∧ SQ A B l r
  generalize hH : recG (Q4n (El := El) N) n = H at *
  unfold Q4n
  refine Q4q (Q := SQ A B l) (fun q z => ∃ (a b : Nat) (lim : Int) (wb wp : Bool) (m : List El), z = (((a : Int), (b : Int), lim, wb, wp, ()), (), (), m, ()) ∧ m.length = len ∧ a ≤ b ∧ b ≤ len ∧ b - a ≤ B - A ∧ Q9w a b m ∧ Fin A B l a b m ∧ q = b - a) ?_ N (B - A) _
   ⟨A, B, lim0, true, true, l, rfl, hlen, hAB, hBl, Nat.le_refl _, hBel, fun R h1 h2 => ⟨h1, h2⟩, rfl⟩ (by omega)
  rintro q z rec ⟨a, b, lim, wb, wp, m, rfl, hm, hab, hb, hle, hbel, hfin, rfl⟩ ih
  have ih' : ∀ (a' b' : Nat) (lim' : Int) (wb wp : Bool) (m' : List El), b' - a' < b - a → m'.length = len → a' ≤ b' → b' ≤ len → Q9w a' b' m' → Fin A B l a' b' m' → ∃ r, rec (((a' : Int), (b' : Int), lim', wb, wp, ()), (), (), m', ()) = some r ∧ SQ A B l r :=
   fun a' b' lim' wb wp m' h1 h2 h3 h4 h5 h6 => ih (b' - a') _ h1 ⟨a', b', lim', wb, wp, m', rfl, h2, h3, h4, by omega, h5, h6, rfl⟩
  have hH' : ∀ (a' b' : Nat) (lim' : Int) (m' : List El), b' - a' < b - a → m'.length = len → a' ≤ b' → b' ≤ len → Q9w a' b' m' → ∃ r, H m' len a' b' lim' = some r ∧ SQ a' b' m' r :=
   fun a' b' lim' m' h1 h2 h3 h4 h5 => ihn m' a' b' lim' (by omega) h2 h3 h4 h5
  simp only [Q5v hab (show b < 9223372036854775808 by omega)]
  by_cases h12 : b - a ≤ 12
  ·have d : decide (((b - a : Nat) : Int) ≤ 12) = true := by simp; omega
   simp only [d, cond_true, Qme N m a b len hm hab hb hl hN, Option.bind_some]
   obtain ⟨f1, f2⟩ := Qo6 m a b hab (by omega)
   obtain ⟨c1, c2⟩ := hfin _ f1 f2
   exact ⟨_, rfl, _, rfl, c1, c2⟩
  have d : decide (((b - a : Nat) : Int) ≤ 12) = false := by simp; omega
  simp only [d, cond_false]
  cases hz : lim == 0 with
  | true =>
   simp only [cond_true, Qvn N m a b len hm (by omega) hb hl hN, Option.bind_some]
   obtain ⟨f1, f2⟩ := Qxq m a b hab (by omega)
   obtain ⟨c1, c2⟩ := hfin _ f1 f2
   exact ⟨_, rfl, _, rfl, c1, c2⟩
  | false =>
   simp only [cond_false]
   have hlt : a < b := by omega
   refine Q90 (fun z => ∃ (lim : Int) (m1 : List El), z = ((lim, ()), (), (), m1, ()) ∧ PermL a b m m1) ?_ ?_
   ·rintro z ⟨lim1, m1, rfl, p1⟩
    have l1 : m1.length = len := by rw [p1.len, hm]
    obtain ⟨p, h, e, ep1, ep2⟩ := choosePivot_eq N m1 a b hlt (by omega) (by omega)
    rw [l1] at e
    simp only [e, Option.bind_some]
    refine Q90 (fun z => ∃ (p : Nat) (h : Int) (m2 : List El), z = (((p : Int), h, ()), (), (), m2, ()) ∧ a ≤ p ∧ p < b ∧ PermL a b m m2) ?_ ?_
    ·rintro z ⟨p, h, m2, rfl, ep1, ep2, p2⟩
     have l2 : m2.length = len := by rw [p2.len, hm]
     have B2 := p2.below (by omega) hbel
     refine Q90 (fun z => ∃ (m3 : List El), z = ((), (), (), m3, ()) ∧ PermL a b m m3) ?_ ?_
     ·rintro z ⟨m3, rfl, p3⟩
      have l3 : m3.length = len := by rw [p3.len, hm]
      have B3 := p3.below (by omega) hbel
      have F3 : Fin A B l a b m3 := fun R h1 h2 => hfin R (p3.trans h1) h2
      have hpart := Qy1 A B l rec H a b p lim1 m3 l3 ep1 ep2 hb hl hN B3 F3 ih' hH'
      simp only [Q5v hab (show b < 9223372036854775808 by omega)] at hpart
      by_cases h0 : 0 < a
      ·have d0 : decide ((0 : Int) < (a : Int)) = true := by simp; omega
       have g1 : a - 1 < m3.length := by omega
       have g2 : p < m3.length := by omega
       simp only [d0, cond_true, Qq h0 (show a < 9223372036854775808 by omega), ← l3, inR' g1, inR' g2, Nat.zero_add, Int.toNat_natCast, List.getElem?_eq_getElem g1, List.getElem?_eq_getElem g2, Option.bind_some, Q2m]
       rw [l3]
       cases hlt2 : ltU m3[a - 1] m3[p] with
       | true =>
        simp only [Bool.not_true, cond_false]
        exact hpart
       | false =>
        simp only [Bool.not_false, cond_true, Qlm N m3 a b p len l3 ep1 ep2 hb hl hN, Option.bind_some]
        have hnl : ltU m3.toArray[a - 1]! m3.toArray[p]! = false := by rw [getA g1, getA g2]; exact hlt2
        obtain ⟨c1, c2, c3, c4, c5⟩ := round_eq (lt := ltU) Qe7 (partitionEqual_holds ltU) (d3 := m3.toArray) (a := a) (b := b) (pivot := p) (mid := (partitionEqual ltU m3.toArray a b p).1) (d4 := (partitionEqual ltU m3.toArray a b p).2) h0 ep1 ep2 (by simp; omega) B3 hnl rfl
        refine ih' _ b lim1 wb wp _ (by omega) (by rw [Array.length_toList, c3]; simpa using l3) c2 hb c4 fun R hR1 hR2 => ?_
        obtain ⟨e1, e2⟩ := c5 R.toArray hR1 hR2
        exact F3 R e1 e2
      ·have d0 : decide ((0 : Int) < (a : Int)) = false := by simp; omega
       simp only [d0, cond_false]
       exact hpart
     ·intro k hk
      have k2 := hk ((), (), (), m2, ()) ⟨m2, rfl, p2⟩
      cases wb with
      | false => simp only [cond_false]; exact k2
      | true =>
       cases wp with
       | false => simp only [cond_false, cond_true]; exact k2
       | true =>
        cases h == 1 with
        | false => simp only [cond_false, cond_true]; exact k2
        | true =>
         obtain ⟨f1, f2⟩ := Qr5 m2 a b hlt (by omega) B2
         simp only [cond_true, Qf4 N m2 a b len l2 hlt hb hl hN, Option.bind_some]
         cases hx : (partialInsertionSort ltU m2.toArray a b).2 with
         | true =>
          simp only [cond_true]
          obtain ⟨c1, c2⟩ := hfin _ (p2.trans f1) (f2 hx)
          exact ⟨_, rfl, _, rfl, c1, c2⟩
         | false =>
          simp only [cond_false]
          exact hk _ ⟨_, rfl, p2.trans f1⟩
    ·intro k hk
     cases h == 2 with
     | false => simp only [cond_false]; exact hk _ ⟨p, h, m1, rfl, ep1, ep2, p1⟩
     | true =>
      obtain ⟨m2, e2, p2⟩ := Qob N m1 a b len hlt l1 hb hl hN
      simp only [cond_true, e2, Option.bind_some, Qq (show 0 < b by omega) (show b < 9223372036854775808 by omega), Q5v ep1 (show p < 9223372036854775808 by omega), Q5v (show p - a ≤ b - 1 by omega) (show b - 1 < 9223372036854775808 by omega)]
      exact hk _ ⟨b - 1 - (p - a), 1, m2, rfl, by omega, by omega, p1.trans p2⟩
   ·intro k hk
    cases wb with
    | true => simp only [Bool.not_true, cond_false]; exact hk _ ⟨lim, m, rfl, .refl _ _ _⟩
    | false =>
     obtain ⟨m1, e1, p1⟩ := Qmj N m a b len hlt hm hb hl hN
     simp only [Bool.not_false, cond_true, e1, Option.bind_some]
     exact hk _ ⟨_, m1, rfl, p1⟩
def srt (l : List El) : List El := l.mergeSort (fun x y => !ltU y x)
theorem Sort_eq (N : Nat) (l : List El) (hl : l.length ≤ 1000000000000) (hN : 1000000000000 < N) : Qjy N l l.length = some (srt l, ()) := by
 unfold Qjy Qpt
 have fin : ∀ lim : Int, ∃ r, recG (Q4n (El := El) N) N l l.length 0 l.length lim = some r ∧ SQ 0 l.length l r :=
  fun lim => Q13d N l.length hl hN N l 0 l.length lim (by omega) rfl (by omega) (Nat.le_refl _) (.inl rfl)
 have hlen : ∃ y, F_math_bits_Len N (IntKind.u64.wrap (l.length : Int)) = some y := by
  rw [Qg5 (by omega)]
  rcases Nat.eq_zero_or_pos l.length with h | h
  ·rw [h]; exact ⟨0, by kernel_rfl⟩
  ·obtain ⟨r, e, _⟩ := Qyk N l.length h (by omega)
   exact ⟨r, e⟩
 obtain ⟨y, e⟩ := hlen
 obtain ⟨r, e2, l', rfl, h1, h2⟩ := fin y
 rw [e, Option.bind_some]
 have e3 : recG (Q4n (El := El) N) N l l.length 0 (l.length : Int) y = some (l', ()) := e2
 rw [e3, Option.bind_some]
 have := sorted_unique_holds (lt := ltU) Qe7 (fun x y h1 h2 => OrdS.anti x y h1 h2) l.toArray l'.toArray (show PermIn 0 l.toArray.size l.toArray l'.toArray by rw [List.size_toArray]; exact h1) (show SortedIn ltU 0 l.toArray.size l'.toArray by rw [List.size_toArray]; exact h2)
 simp only [List.toList_toArray] at this
 rw [this]
 rfl
end
end Go.Proofs.Xu
set_option linter.unusedVariables false
set_option linter.unusedSimpArgs false
set_option maxRecDepth 100000
namespace Go.Proofs.Xu
open Go Go.Xl Go.Ab Go.Proofs Go.Sort
theorem Q139 (N : Nat) (x y : Int) : Q3a N x y = some (decide (x < y)) := by
 simp only [Q3a, Qs, cond_eq_ite, Option.bind_some]
 grind
theorem less8 (N : Nat) (x y : UInt8) : Q3m N x y = some (decide (x < y)) := by
 simp only [Q3m, Q58, cond_eq_ite, Option.bind_some]
 grind
theorem lessS (N : Nat) (x y : List UInt8) : Q3b N x y = some (Op.bytesLess x y) := by
 simp only [Q3b, Q4i, cond_eq_ite, Option.bind_some]
 grind
namespace S
theorem bytesLess_lt : ∀ x y : List UInt8, Op.bytesLess x y = decide (x < y)
 | [], [] => by simp [Op.bytesLess]
 | [], _ :: _ => by simp [Op.bytesLess]
 | _ :: _, [] => by simp [Op.bytesLess]
 | a :: r, b :: s => by
  simp only [Op.bytesLess, bytesLess_lt r s]
  by_cases h : a < b
  ·simp [h, List.cons_lt_cons_iff]
  ·by_cases h2 : b < a
   ·have : a ≠ b := fun e => by subst e; exact h h2
    simp [h, h2, List.cons_lt_cons_iff, this]
   ·have : a = b := UInt8.toNat_inj.1 (by rw [UInt8.lt_iff_toNat_lt] at h h2; omega)
    subst this
    simp [List.cons_lt_cons_iff, UInt8.lt_irrefl]
theorem bl_ltStr : Op.bytesLess = ltStr := by
 funext x y
 exact bytesLess_lt x y
end S
noncomputable instance ordI : OrdS Int where
 lt x y := decide (x < y)
 L := Q3a 0
 dflt := 0
 hL := Q139 0
 swo :=
  {irrefl := fun x => by simp
   trans := fun x y z h1 h2 => by
    simp only [decide_eq_true_eq] at *
    exact Int.lt_trans h1 h2
   ntrans := fun x y z h1 h2 => by
    simp only [decide_eq_false_iff_not] at *
    exact Int.not_lt.2 (Int.le_trans (Int.not_lt.1 h2) (Int.not_lt.1 h1)) }
 anti x y h1 h2 := by
  simp only [decide_eq_false_iff_not] at *
  exact Int.le_antisymm (Int.not_lt.1 h2) (Int.not_lt.1 h1)
noncomputable instance ordB : OrdS UInt8 where
 lt x y := decide (x < y)
 L := Q3m 0
 dflt := 0
 hL := less8 0
 swo :=
  {irrefl := fun x => by simp
   trans := fun x y z h1 h2 => by
    simp only [decide_eq_true_eq, UInt8.lt_iff_toNat_lt] at *
    exact Nat.lt_trans h1 h2
   ntrans := fun x y z h1 h2 => by
    simp only [decide_eq_false_iff_not, UInt8.lt_iff_toNat_lt] at *
    exact Nat.not_lt.2 (Nat.le_trans (Nat.not_lt.1 h2) (Nat.not_lt.1 h1)) }
 anti x y h1 h2 := by
  simp only [decide_eq_false_iff_not, UInt8.lt_iff_toNat_lt] at *
  exact UInt8.toNat_inj.1 (Nat.le_antisymm (Nat.not_lt.1 h2) (Nat.not_lt.1 h1))
noncomputable instance ordS : OrdS (List UInt8) where
 lt := Op.bytesLess
 L := Q3b 0
 dflt := []
 hL := lessS 0
 swo := by rw [S.bl_ltStr]; exact swo_ltStr
 anti x y h1 h2 := by
  rw [S.bl_ltStr] at h1 h2
  simp only [ltStr, decide_eq_false_iff_not] at *
  exact List.le_antisymm (List.not_lt.1 h2) (List.not_lt.1 h1)
end Go.Proofs.Xu
set_option linter.unusedVariables false
set_option maxRecDepth 100000
namespace Go.Proofs.Xu
open Go Go.Xl Go.Ab Go.Proofs
noncomputable def F0_slices_insertionSortOrdered_uint64 (N : Nat) : FunA [.d (.int .i64), .d (.int .i64)] (Option (ResT (rkTys (.int .u64) []))) := fun (x x_1 : Int) => iter (fun (rec : (Int × Unit) × Unit × Unit × Unit
 → Option Unit) (z : (Int × Unit) × Unit × Unit × Unit) => bif decide (z.1.1 < x_1) then iter (fun (rec_1 : (Int × Unit) × Unit × Unit × Unit → Option Unit) (z_1 : (Int × Unit) × Unit × Unit × Unit) => Ql (fun (z
 : Unit × Unit × Unit × Unit) => (at? [] (IntKind.i64.wrap (z_1.1.1 - 1))).bind fun (e : Int) => (at? [] z_1.1.1).bind fun (e : Int) => (at? [] z_1.1.1).bind fun (e : Int) => none) fun (k : Unit × Unit × Unit
 × Unit → Option Unit) => bif decide (x < z_1.1.1) then (at? [] z_1.1.1).bind fun (e : Int) => (at? [] (IntKind.i64.wrap (z_1.1.1 - 1))).bind fun (e_1 : Int) => Option.bind (Q3a N e e_1) fun (y
 : Bool) => bif y then k ((), (), (), ()) else rec ((IntKind.i64.wrap (z.1.1 + 1), ()), (), (), ()) else rec ((IntKind.i64.wrap (z.1.1 + 1), ()), (), (), ())) N ((z.1.1, ()), (), (), ()) else some ()) N
 ((IntKind.i64.wrap (x + 1), ()), (), (), ())
theorem Q89 (N : Nat) : runO0 Try.prog [Q1d N] [] N Try.f107 (.seq .lf (.blk (.loop ⟨[(6, .d (.int .i64))], [], [0, 1, 2], [], [], []⟩ (.seq .lf (.seq (.blk (.seq .lf (.blk (.loop ⟨[(7, .d (.int .i64))], [], [0, 1, 2, 6], [], [], []⟩ (.join ⟨[], [], [0, 1, 2, 6, 7], [], [], []⟩ .lf .lf))))) .lf))))) (.int .u64) [.d (.int .i64), .d (.int .i64)] [] = F0_slices_insertionSortOrdered_uint64 N := by kernel_rfl
noncomputable def Q42 (N : Nat) : List ((.int .u64) : Ty).T → Nat → FunA [.d (.int .i64), .d (.int .i64)] (Option (List ((.int .u64) : Ty).T × ResO [])) := Q4p (El := Int) N
theorem Q8s (N : Nat) : runO Try.prog [Q1d N] [] N Try.f107 (.seq .lf (.blk (.loop ⟨[(6, .d (.int .i64))], [], [0, 1, 2], [], [], [(1, .arr (.int .u64))]⟩ (.seq .lf (.seq (.blk (.seq .lf (.blk (.loop ⟨[(7, .d (.int .i64))], [], [0, 1, 2, 6], [], [], [(1, .arr (.int .u64))]⟩ (.join ⟨[], [], [0, 1, 2, 6, 7], [1], [], []⟩ .lf .lf))))) .lf))))) (.int .u64) [.d (.int .i64), .d (.int .i64)] [] = Q42 N := by kernel_rfl
noncomputable def Q46 (N : Nat) : Ent Try.prog := mkO2 107 Try.f107 _ _ (.int .u64) [.d (.int .i64), .d (.int .i64)] [] (Q42 N) (F0_slices_insertionSortOrdered_uint64 N) mixed Try.func107 (.mk' Try.func107 rfl (by decide)) rfl (Q8s N) (Q89 N)
noncomputable def Q5w (N : Nat) : List ((.int .u64) : Ty).T → Nat → FunA [.d (.int .i64), .d (.int .i64), .d (.int .i64)] (Option (List ((.int .u64) : Ty).T × ResO [])) := Q7o (El :=
 Int) N
theorem Qb1 (N : Nat) : runO Try.prog [Q1d N] [] N Try.f140 (.seq .lf (.blk (.loop ⟨[(8, .d (.int .i64))], [], [0, 2, 3], [], [], [(1, .arr (.int .u64))]⟩ (.blk (.seq .lf (.seq .lf (.join ⟨[(9, .d (.int .i64))], [], [0, 2, 3, 8], [1], [], []⟩ .lf .lf))))))) (.int .u64) [.d (.int .i64), .d (.int .i64), .d (.int .i64)] [] = Q5w N := by kernel_rfl
noncomputable def Qaq (N : Nat) : Ent Try.prog := mkO 140 Try.f140 _ (.int .u64) [.d (.int .i64), .d (.int .i64), .d (.int .i64)] [] (Q5w N) mixed Try.func140 (.mk' Try.func140 rfl (by decide)) rfl (Qb1 N)
noncomputable def Q5x (N : Nat) : List ((.int .u64) : Ty).T → Nat → FunA [.d (.int .i64), .d (.int .i64)] (Option (List ((.int .u64) : Ty).T × ResO [])) := Q9h (El := Int) N
theorem Qaz (N : Nat) : runO Try.prog [Qaq N] [] N Try.f108 (.seq .lf (.seq .lf (.seq .lf (.seq (.seq .lf (.blk (.loop ⟨[(9, .d (.int .i64))], [], [0, 6, 7, 8], [], [], [(1, .arr (.int .u64))]⟩ .lf))) (.seq .lf (.blk (.loop ⟨[(10, .d (.int .i64))], [], [0, 6, 7], [], [], [(1, .arr (.int .u64))]⟩ .lf))))))) (.int .u64) [.d (.int .i64), .d (.int .i64)] [] = Q5x N := by kernel_rfl
noncomputable def Q60 (N : Nat) : Ent Try.prog := mkO 108 Try.f108 _ (.int .u64) [.d (.int .i64), .d (.int .i64)] [] (Q5x N) mixed Try.func108 (.mk' Try.func108 rfl (by decide)) rfl (Qaz N)
noncomputable def Q4m (N : Nat) : List ((.int .u64) : Ty).T → Nat → FunA [.d (.int .i64), .d (.int .i64)] (Option (List ((.int .u64) : Ty).T × ResO [])) := Q35 (El := Int) N
theorem Q95 (N : Nat) : runO Try.prog [Q64 N, Q6v N] [] N Try.f109 (.seq .lf (.seq .lf (.cond (.seq .lf (.seq .lf (.seq .lf (.blk (.loop ⟨[(9, .d (.int .i64))], [(1007, [.d (.int .u64)], some 163)], [0, 1, 6, 7, 8], [], [], [(1, .arr (.int .u64))]⟩ (.seq .lf (.seq (.blk (.seq .lf (.join ⟨[(10, .d (.int .i64))], [], [0, 1, 6, 7, 8, 9], [1, 1007], [], []⟩ .lf .lf))) .lf))))))) .lf))) (.int .u64) [.d (.int .i64), .d (.int .i64)] [] = Q4m N := by kernel_rfl
noncomputable def Q48 (N : Nat) : Ent Try.prog := mkO 109 Try.f109 _ (.int .u64) [.d (.int .i64), .d (.int .i64)] [] (Q4m N) mixed Try.func109 (.mk' Try.func109 rfl (by decide)) rfl (Q95 N)
@[reducible] def Q1y : CSp := ⟨[.os 1 (.int .u64), .d (.int .i64), .d (.int .i64), .p 2 0], [(2, [.d (.int .i64)], some 3)], [(1, .arr (.int .u64))], ⟨[(8, .d (.int .i64)), (9, .d (.int .i64))], [(2, [.d (.int .i64)], some 3)], [], [1], [], []⟩⟩
noncomputable def Q74 (N : Nat) : CSp.Fun Q1y (Option Q1y.out.T) := Q8y (El := Int) N
theorem Qbp (N : Nat) : runC Try.prog [Q1d N] [] N Try.f171 .lf Q1y = Q74 N := by kernel_rfl
noncomputable def Qbh (N : Nat) : Ent Try.prog := mkC 171 Try.f171 _ Q1y (Q74 N) mixed Try.func171 (.mk' Try.func171 rfl (by decide)) rfl rfl rfl (Qbp N)
@[reducible] def Q20 : CSp := ⟨[.os 1 (.int .u64), .d (.int .i64), .d (.int .i64), .d (.int .i64), .p 2 0], [(2, [.d (.int .i64)], some 3)], [(1, .arr (.int .u64))], ⟨[(10, .d (.int .i64))], [(2, [.d (.int .i64)], some 3)], [], [1], [], []⟩⟩
noncomputable def Q71 (N : Nat) : CSp.Fun Q20 (Option Q20.out.T) := Q8i (El := Int) N
theorem Qbi (N : Nat) : runC Try.prog [Qbh N] [] N Try.f144 .lf Q20 = Q71 N := by kernel_rfl
noncomputable def Q70 (N : Nat) : Ent Try.prog := mkC 144 Try.f144 _ Q20 (Q71 N) mixed Try.func144 (.mk' Try.func144 rfl (by decide)) rfl rfl rfl (Qbi N)
@[reducible] def Q16 : CSp := ⟨[.os 1 (.int .u64), .d (.int .i64), .p 2 0], [(2, [.d (.int .i64)], some 3)], [(1, .arr (.int .u64))], ⟨[(6, .d (.int .i64))], [(2, [.d (.int .i64)], some 3)], [], [1], [], []⟩⟩
noncomputable def Q3t (N : Nat) : CSp.Fun Q16 (Option Q16.out.T) := Q23 (El := Int) N
theorem Q88 (N : Nat) : runC Try.prog [Q70 N] [] N Try.f143 .lf Q16 = Q3t N := by kernel_rfl
noncomputable def Q8d (N : Nat) : Ent Try.prog := mkC 143 Try.f143 _ Q16 (Q3t N) mixed Try.func143 (.mk' Try.func143 rfl (by decide)) rfl rfl rfl (Q88 N)
noncomputable def Q53 (N : Nat) : List ((.int .u64) : Ty).T → Nat → FunA [.d (.int .i64), .d (.int .i64)] (Option (List ((.int .u64) : Ty).T × ResO [.d (.int .i64), .d (.int .i64)])) :=
 Q67 (El := Int) N
theorem Q9m (N : Nat) : runO Try.prog [Q8d N, Q70 N] [] N Try.f110 (.seq .lf (.seq .lf (.seq .lf (.seq .lf (.seq .lf (.seq .lf (.join ⟨[(11, .d (.int .i64))], [(1009, [.d (.int .i64)], some 3)], [9], [], [], [(1, .arr (.int .u64))]⟩ .lf .lf))))))) (.int .u64) [.d (.int .i64), .d (.int .i64)] [.d (.int .i64), .d (.int .i64)] = Q53 N := by kernel_rfl
noncomputable def Q50 (N : Nat) : Ent Try.prog := mkO 110 Try.f110 _ (.int .u64) [.d (.int .i64), .d (.int .i64)] [.d (.int .i64), .d (.int .i64)] (Q53 N) mixed Try.func110 (.mk' Try.func110 rfl (by decide)) rfl (Q9m N)
noncomputable def Q4v (N : Nat) : List ((.int .u64) : Ty).T → Nat → FunA [.d (.int .i64), .d (.int .i64)] (Option (List ((.int .u64) : Ty).T × ResO [])) := Q3q (El := Int) N
theorem Q9a (N : Nat) : runO Try.prog [] [] N Try.f111 (.seq .lf (.seq .lf (.blk (.loop ⟨[(6, .d (.int .i64)), (7, .d (.int .i64))], [], [0], [], [], [(1, .arr (.int .u64))]⟩ .lf)))) (.int .u64) [.d (.int .i64), .d (.int .i64)] [] = Q4v N := by kernel_rfl
noncomputable def Q4w (N : Nat) : Ent Try.prog := mkO 111 Try.f111 _ (.int .u64) [.d (.int .i64), .d (.int .i64)] [] (Q4v N) mixed Try.func111 (.mk' Try.func111 rfl (by decide)) rfl (Q9a N)
noncomputable def Q2i (N : Nat) : List ((.int .u64) : Ty).T → Nat → FunA [.d (.int .i64), .d (.int .i64)] (Option (List ((.int .u64) : Ty).T × ResO [.d .bool])) :=
 Q1r (El := Int) N
theorem Q77 (N : Nat) : runO Try.prog [Q1d N] [] N Try.f112 (.seq .lf (.seq .lf (.seq (.seq .lf (.blk (.loop ⟨[(7, .d (.int .i64)), (8, .d (.int .i64))], [], [0, 1, 2], [], [], [(1, .arr (.int .u64))]⟩ (.seq .lf (.seq (.blk (.join ⟨[(7, .d (.int .i64))], [], [0, 1, 2, 8], [1], [], []⟩ (.blk (.loop ⟨[(7, .d (.int .i64))], [], [0, 1, 2, 8], [1], [], []⟩ .lf)) (.seq .lf (.seq .lf (.seq .lf (.join ⟨[], [], [0, 1, 2, 7, 8], [], [], [(1, .arr (.int .u64))]⟩ (.seq .lf (.cond (.seq .lf (.blk (.loop ⟨[(9, .d (.int .i64))], [], [0, 1, 2, 7, 8], [], [], [(1, .arr (.int .u64))]⟩ .lf))) .lf)) (.seq .lf (.cond (.seq .lf (.blk (.loop ⟨[(10, .d (.int .i64))], [], [0, 1, 2, 7, 8], [], [], [(1, .arr (.int .u64))]⟩ .lf))) .lf)))))))) .lf))))) .lf))) (.int .u64) [.d (.int .i64), .d (.int .i64)] [.d .bool] = Q2i N := by kernel_rfl
noncomputable def Q2f (N : Nat) : Ent Try.prog := mkO 112 Try.f112 _ (.int .u64) [.d (.int .i64), .d (.int .i64)] [.d .bool] (Q2i N) mixed Try.func112 (.mk' Try.func112 rfl (by decide)) rfl (Q77 N)
noncomputable def Q3u (N : Nat) : List ((.int .u64) : Ty).T → Nat → FunA [.d (.int .i64), .d (.int .i64), .d (.int .i64)] (Option (List ((.int .u64) : Ty).T × ResO [.d (.int .i64)])) :=
 Q3o (El := Int) N
theorem Q8a (N : Nat) : runO Try.prog [Q1d N] [] N Try.f114 (.seq .lf (.seq .lf (.seq .lf (.seq (.blk (.loop ⟨[(9, .d (.int .i64)), (10, .d (.int .i64))], [], [0, 1], [], [], [(1, .arr (.int .u64))]⟩ (.blk (.join ⟨[(9, .d (.int .i64))], [], [0, 1, 10], [1], [], []⟩ (.blk (.loop ⟨[(9, .d (.int .i64))], [], [0, 1, 10], [1], [], []⟩ .lf)) (.join ⟨[(10, .d (.int .i64))], [], [0, 1, 9], [1], [], []⟩ (.blk (.loop ⟨[(10, .d (.int .i64))], [], [0, 1, 9], [1], [], []⟩ .lf)) .lf))))) .lf)))) (.int .u64) [.d (.int .i64), .d (.int .i64), .d (.int .i64)] [.d (.int .i64)] = Q3u N := by kernel_rfl
noncomputable def Q3w (N : Nat) : Ent Try.prog := mkO 114 Try.f114 _ (.int .u64) [.d (.int .i64), .d (.int .i64), .d (.int .i64)] [.d (.int .i64)] (Q3u N) mixed Try.func114 (.mk' Try.func114 rfl (by decide)) rfl (Q8a N)
noncomputable def Q5m (N : Nat) : List ((.int .u64) : Ty).T → Nat → FunA [.d (.int .i64), .d (.int .i64), .d (.int .i64)] (Option (List ((.int .u64) : Ty).T × ResO [.d (.int .i64), .d
 .bool])) := Q5e (El := Int) N
theorem Qa6 (N : Nat) : runO Try.prog [Q1d N] [] N Try.f115 (.seq .lf (.seq .lf (.seq .lf (.join ⟨[(10, .d (.int .i64))], [], [0, 1, 11], [1], [], []⟩ (.blk (.loop ⟨[(10, .d (.int .i64))], [], [0, 1, 11], [1], [], []⟩ .lf)) (.join ⟨[(11, .d (.int .i64))], [], [0, 1, 10], [1], [], []⟩ (.blk (.loop ⟨[(11, .d (.int .i64))], [], [0, 1, 10], [1], [], []⟩ .lf)) (.seq .lf (.seq .lf (.seq .lf (.seq .lf (.join ⟨[(11, .d (.int .i64))], [], [0, 1], [], [], [(1, .arr (.int .u64))]⟩ (.blk (.loop ⟨[(10, .d (.int .i64)), (11, .d (.int .i64))], [], [0, 1], [], [], [(1, .arr (.int .u64))]⟩ (.blk (.join ⟨[(10, .d (.int .i64))], [], [0, 1, 11], [1], [], []⟩ (.blk (.loop ⟨[(10, .d (.int .i64))], [], [0, 1, 11], [1], [], []⟩ .lf)) (.join ⟨[(11, .d (.int .i64))], [], [0, 1, 10], [1], [], []⟩ (.blk (.loop ⟨[(11, .d (.int .i64))], [], [0, 1, 10], [1], [], []⟩ .lf)) .lf))))) .lf)))))))))) (.int .u64) [.d (.int .i64), .d (.int .i64), .d (.int .i64)] [.d (.int .i64), .d .bool] = Q5m N := by kernel_rfl
noncomputable def Q5u (N : Nat) : Ent Try.prog := mkO 115 Try.f115 _ (.int .u64) [.d (.int .i64), .d (.int .i64), .d (.int .i64)] [.d (.int .i64), .d .bool] (Q5m N) mixed Try.func115 (.mk' Try.func115 rfl (by decide)) rfl (Qa6 N)
noncomputable def Q6j (N : Nat) : FnO (.int .u64) [.d (.int .i64), .d (.int .i64), .d (.int .i64)] [] → FnO (.int .u64) [.d (.int .i64), .d (.int .i64), .d (.int .i64)] [] := Q4n (El :=
 Int) N
theorem Qar (N : Nat) (G : FnO (.int .u64) [.d (.int .i64), .d (.int .i64), .d (.int .i64)] []) (hG : SndO Try.prog 81 (.int .u64) [.d (.int .i64), .d (.int .i64), .d (.int .i64)] [] G) : runO Try.prog [Q46 N, Q60 N, Q48 N, Q50 N, Q4w N, Q2f N, Q1d N, Q3w N, Q5u N, (Qsz 81 (.int .u64) [.d (.int .i64), .d (.int .i64), .d (.int .i64)] [] G (.mk' Try.func81 rfl (by decide)) hG)] [] N Try.f81 (.seq .lf (.seq .lf (.blk (.loop ⟨[(1, .d (.int .i64)), (2, .d (.int .i64)), (3, .d (.int .i64)), (8, .d .bool), (9, .d .bool)], [], [0], [], [], [(1, .arr (.int .u64))]⟩ (.blk (.seq .lf (.seq .lf (.seq .lf (.join ⟨[(3, .d (.int .i64))], [], [0, 1, 2, 8, 9, 10], [], [], [(1, .arr (.int .u64))]⟩ .lf (.seq .lf (.join ⟨[(11, .d (.int .i64)), (12, .d (.int .i64))], [], [0, 1, 2, 3, 8, 9, 10], [], [], [(1, .arr (.int .u64))]⟩ .lf (.join ⟨[], [], [0, 1, 2, 3, 8, 9, 10, 11], [], [], [(1, .arr (.int .u64))]⟩ .lf .lf)))))))))))) (.int .u64) [.d (.int .i64), .d (.int .i64), .d (.int .i64)] [] = Q6j N G := by kernel_rfl
noncomputable def Q6m (N : Nat) : FnO (.int .u64) [.d (.int .i64), .d (.int .i64), .d (.int .i64)] [] := recO (Q6j N) N
theorem Qbg (N : Nat) : SndO Try.prog 81 (.int .u64) [.d (.int .i64), .d (.int .i64), .d (.int .i64)] [] (Q6m N) := Qdj (fun G hG l k => Qar N G hG ▸ Q9l mixed Try.func81 rfl l k) N
noncomputable def F0_slices_pdqsortOrdered_uint64 (N : Nat) : FunA [.d (.int .i64), .d (.int .i64), .d (.int .i64)] (Option (ResT (rkTys (.int .u64) []))) := fun (x x_1 x_2 : Int) => iter (fun (rec : (Int × Int × Int ×
 Bool × Bool × Unit) × Unit × Unit × Unit → Option Unit) (z : (Int × Int × Int × Bool × Bool × Unit) × Unit × Unit × Unit) => bif decide (IntKind.i64.wrap (z.1.2.1 - z.1.1) ≤ 12) then Option.bind
 (F0_slices_insertionSortOrdered_uint64 N z.1.1 z.1.2.1) fun (y : Unit) => some () else bif z.1.2.2.1 == 0 then none else Ql (fun (z : (Int × Unit) × Unit × Unit × Unit) => none) fun (k : (Int ×
 Unit) × Unit × Unit × Unit → Option Unit) => bif !z.1.2.2.2.1 then none else k ((z.1.2.2.1, ()), (), (), ())) N ((x, x_1, x_2, true, true, ()), (), (), ())
theorem Qb0 (N : Nat) : runO0 Try.prog [Q46 N, Q60 N, Q48 N, Q50 N, Q4w N, Q2f N, Q1d N, Q3w N, Q5u N] [] N Try.f81 (.seq .lf (.seq .lf (.blk (.loop ⟨[(1, .d (.int .i64)), (2, .d (.int .i64)), (3, .d (.int .i64)), (8, .d .bool), (9, .d .bool)], [], [0], [], [], []⟩ (.blk (.seq .lf (.seq .lf (.seq .lf (.join ⟨[(3, .d (.int .i64))], [], [0, 1, 2, 8, 9, 10], [], [], []⟩ .lf (.seq .lf (.join ⟨[(11, .d (.int .i64)), (12, .d (.int .i64))], [], [0, 1, 2, 3, 8, 9, 10], [], [], []⟩ .lf (.join ⟨[], [], [0, 1, 2, 3, 8, 9, 10, 11], [], [], []⟩ .lf .lf)))))))))))) (.int .u64) [.d (.int .i64), .d (.int .i64), .d (.int .i64)] [] = F0_slices_pdqsortOrdered_uint64 N := by kernel_rfl
noncomputable def Q6n (N : Nat) : Ent Try.prog := Qoz 81 (.int .u64) [.d (.int .i64), .d (.int .i64), .d (.int .i64)] [] (Q6m N) (F0_slices_pdqsortOrdered_uint64 N) (.mk' Try.func81 rfl (by decide)) (Qbg N) (Qb0 N ▸ Q9x mixed Try.func81 rfl)
noncomputable def F0_slices_Sort_suint64_uint64 (N : Nat) : FunA [] (Option (ResT (rkTys (.int .u64) []))) := Option.bind (F_math_bits_Len N 0) fun (y : Int) => Option.bind (F0_slices_pdqsortOrdered_uint64 N 0 0 y) fun
 (y : Unit) => some ()
theorem Qbl (N : Nat) : runO0 Try.prog [Q6n N, e_math_bits_Len N] [] N Try.f46 .lf (.int .u64) [] [] = F0_slices_Sort_suint64_uint64 N := by kernel_rfl
noncomputable def F_slices_Sort_suint64_uint64 (N : Nat) : List ((.int .u64) : Ty).T → Nat → FunA [] (Option (List ((.int .u64) : Ty).T × ResO [])) := Qjy (El := Int) N
theorem Qce (N : Nat) : runO Try.prog [Q6n N, e_math_bits_Len N] [] N Try.f46 .lf (.int .u64) [] [] = F_slices_Sort_suint64_uint64 N := by kernel_rfl
noncomputable def Qby (N : Nat) : Ent Try.prog := mkO2 46 Try.f46 _ _ (.int .u64) [] [] (F_slices_Sort_suint64_uint64 N) (F0_slices_Sort_suint64_uint64 N) mixed Try.func46 (.mk' Try.func46 rfl (by decide)) rfl (Qce N) (Qbl N)
end Go.Proofs.Xu
set_option linter.unusedVariables false
set_option maxRecDepth 100000
namespace Go.Proofs.Xu
open Go Go.Xl Go.Ab Go.Proofs
noncomputable def F0_slices_insertionSortOrdered_uint8 (N : Nat) : FunA [.d (.int .i64), .d (.int .i64)] (Option (ResT (rkTys .u8 []))) := fun (x x_1 : Int) => iter (fun (rec : (Int × Unit) × Unit × Unit × Unit → Option
 Unit) (z : (Int × Unit) × Unit × Unit × Unit) => bif decide (z.1.1 < x_1) then iter (fun (rec_1 : (Int × Unit) × Unit × Unit × Unit → Option Unit) (z_1 : (Int × Unit) × Unit × Unit × Unit) => Ql (fun (z : Unit ×
 Unit × Unit × Unit) => (at? [] (IntKind.i64.wrap (z_1.1.1 - 1))).bind fun (e : UInt8) => (at? [] z_1.1.1).bind fun (e : UInt8) => (at? [] z_1.1.1).bind fun (e : UInt8) => none) fun (k : Unit × Unit × Unit ×
 Unit → Option Unit) => bif decide (x < z_1.1.1) then (at? [] z_1.1.1).bind fun (e : UInt8) => (at? [] (IntKind.i64.wrap (z_1.1.1 - 1))).bind fun (e_1 : UInt8) => Option.bind (Q3m N e e_1) fun (y
 : Bool) => bif y then k ((), (), (), ()) else rec ((IntKind.i64.wrap (z.1.1 + 1), ()), (), (), ()) else rec ((IntKind.i64.wrap (z.1.1 + 1), ()), (), (), ())) N ((z.1.1, ()), (), (), ()) else some ()) N
 ((IntKind.i64.wrap (x + 1), ()), (), (), ())
theorem Q8t (N : Nat) : runO0 Try.prog [Q1m N] [] N Try.f130 (.seq .lf (.blk (.loop ⟨[(6, .d (.int .i64))], [], [0, 1, 2], [], [], []⟩ (.seq .lf (.seq (.blk (.seq .lf (.blk (.loop ⟨[(7, .d (.int .i64))], [], [0, 1, 2, 6], [], [], []⟩ (.join ⟨[], [], [0, 1, 2, 6, 7], [], [], []⟩ .lf .lf))))) .lf))))) .u8 [.d (.int .i64), .d (.int .i64)] [] = F0_slices_insertionSortOrdered_uint8 N := by kernel_rfl
noncomputable def Q4t (N : Nat) : List (.u8 : Ty).T → Nat → FunA [.d (.int .i64), .d (.int .i64)] (Option (List (.u8 : Ty).T × ResO [])) := Q4p (El := UInt8) N
theorem Q9j (N : Nat) : runO Try.prog [Q1m N] [] N Try.f130 (.seq .lf (.blk (.loop ⟨[(6, .d (.int .i64))], [], [0, 1, 2], [], [], [(1, .arr .u8)]⟩ (.seq .lf (.seq (.blk (.seq .lf (.blk (.loop ⟨[(7, .d (.int .i64))], [], [0, 1, 2, 6], [], [], [(1, .arr .u8)]⟩ (.join ⟨[], [], [0, 1, 2, 6, 7], [1], [], []⟩ .lf .lf))))) .lf))))) .u8 [.d (.int .i64), .d (.int .i64)] [] = Q4t N := by kernel_rfl
noncomputable def Q4s (N : Nat) : Ent Try.prog := mkO2 130 Try.f130 _ _ .u8 [.d (.int .i64), .d (.int .i64)] [] (Q4t N) (F0_slices_insertionSortOrdered_uint8 N) mixed Try.func130 (.mk' Try.func130 rfl (by decide)) rfl (Q9j N) (Q8t N)
noncomputable def Q6c (N : Nat) : List (.u8 : Ty).T → Nat → FunA [.d (.int .i64), .d (.int .i64), .d (.int .i64)] (Option (List (.u8 : Ty).T × ResO [])) := Q7o (El := UInt8) N
theorem Qb7 (N : Nat) : runO Try.prog [Q1m N] [] N Try.f158 (.seq .lf (.blk (.loop ⟨[(8, .d (.int .i64))], [], [0, 2, 3], [], [], [(1, .arr .u8)]⟩ (.blk (.seq .lf (.seq .lf (.join ⟨[(9, .d (.int .i64))], [], [0, 2, 3, 8], [1], [], []⟩ .lf .lf))))))) .u8 [.d (.int .i64), .d (.int .i64), .d (.int .i64)] [] = Q6c N := by kernel_rfl
noncomputable def Qb8 (N : Nat) : Ent Try.prog := mkO 158 Try.f158 _ .u8 [.d (.int .i64), .d (.int .i64), .d (.int .i64)] [] (Q6c N) mixed Try.func158 (.mk' Try.func158 rfl (by decide)) rfl (Qb7 N)
noncomputable def Q6e (N : Nat) : List (.u8 : Ty).T → Nat → FunA [.d (.int .i64), .d (.int .i64)] (Option (List (.u8 : Ty).T × ResO [])) := Q9h (El := UInt8) N
theorem Qb4 (N : Nat) : runO Try.prog [Qb8 N] [] N Try.f131 (.seq .lf (.seq .lf (.seq .lf (.seq (.seq .lf (.blk (.loop ⟨[(9, .d (.int .i64))], [], [0, 6, 7, 8], [], [], [(1, .arr .u8)]⟩ .lf))) (.seq .lf (.blk (.loop ⟨[(10, .d (.int .i64))], [], [0, 6, 7], [], [], [(1, .arr .u8)]⟩ .lf))))))) .u8 [.d (.int .i64), .d (.int .i64)] [] = Q6e N := by kernel_rfl
noncomputable def Q6d (N : Nat) : Ent Try.prog := mkO 131 Try.f131 _ .u8 [.d (.int .i64), .d (.int .i64)] [] (Q6e N) mixed Try.func131 (.mk' Try.func131 rfl (by decide)) rfl (Qb4 N)
noncomputable def Q4r (N : Nat) : List (.u8 : Ty).T → Nat → FunA [.d (.int .i64), .d (.int .i64)] (Option (List (.u8 : Ty).T × ResO [])) := Q35 (El := UInt8) N
theorem Q9i (N : Nat) : runO Try.prog [Q64 N, Q6v N] [] N Try.f132 (.seq .lf (.seq .lf (.cond (.seq .lf (.seq .lf (.seq .lf (.blk (.loop ⟨[(9, .d (.int .i64))], [(1007, [.d (.int .u64)], some 163)], [0, 1, 6, 7, 8], [], [], [(1, .arr .u8)]⟩ (.seq .lf (.seq (.blk (.seq .lf (.join ⟨[(10, .d (.int .i64))], [], [0, 1, 6, 7, 8, 9], [1, 1007], [], []⟩ .lf .lf))) .lf))))))) .lf))) .u8 [.d (.int .i64), .d (.int .i64)] [] = Q4r N := by kernel_rfl
noncomputable def Q4y (N : Nat) : Ent Try.prog := mkO 132 Try.f132 _ .u8 [.d (.int .i64), .d (.int .i64)] [] (Q4r N) mixed Try.func132 (.mk' Try.func132 rfl (by decide)) rfl (Q9i N)
@[reducible] def Q26 : CSp := ⟨[.os 1 .u8, .d (.int .i64), .d (.int .i64), .p 2 0], [(2, [.d (.int .i64)], some 3)], [(1, .arr .u8)], ⟨[(8, .d (.int .i64)), (9, .d (.int .i64))], [(2, [.d (.int .i64)], some 3)], [], [1], [], []⟩⟩
noncomputable def Q79 (N : Nat) : CSp.Fun Q26 (Option Q26.out.T) := Q8y (El := UInt8) N
theorem Qc2 (N : Nat) : runC Try.prog [Q1m N] [] N Try.f179 .lf Q26 = Q79 N := by kernel_rfl
noncomputable def Qcg (N : Nat) : Ent Try.prog := mkC 179 Try.f179 _ Q26 (Q79 N) mixed Try.func179 (.mk' Try.func179 rfl (by decide)) rfl rfl rfl (Qc2 N)
@[reducible] def Q25 : CSp := ⟨[.os 1 .u8, .d (.int .i64), .d (.int .i64), .d (.int .i64), .p 2 0], [(2, [.d (.int .i64)], some 3)], [(1, .arr .u8)], ⟨[(10, .d (.int .i64))], [(2, [.d (.int .i64)], some 3)], [], [1], [], []⟩⟩
noncomputable def Q7e (N : Nat) : CSp.Fun Q25 (Option Q25.out.T) := Q8i (El := UInt8) N
theorem Qc9 (N : Nat) : runC Try.prog [Qcg N] [] N Try.f160 .lf Q25 = Q7e N := by kernel_rfl
noncomputable def Q7h (N : Nat) : Ent Try.prog := mkC 160 Try.f160 _ Q25 (Q7e N) mixed Try.func160 (.mk' Try.func160 rfl (by decide)) rfl rfl rfl (Qc9 N)
@[reducible] def Q19 : CSp := ⟨[.os 1 .u8, .d (.int .i64), .p 2 0], [(2, [.d (.int .i64)], some 3)], [(1, .arr .u8)], ⟨[(6, .d (.int .i64))], [(2, [.d (.int .i64)], some 3)], [], [1], [], []⟩⟩
noncomputable def Q4k (N : Nat) : CSp.Fun Q19 (Option Q19.out.T) := Q23 (El := UInt8) N
theorem Q92 (N : Nat) : runC Try.prog [Q7h N] [] N Try.f159 .lf Q19 = Q4k N := by kernel_rfl
noncomputable def Q96 (N : Nat) : Ent Try.prog := mkC 159 Try.f159 _ Q19 (Q4k N) mixed Try.func159 (.mk' Try.func159 rfl (by decide)) rfl rfl rfl (Q92 N)
noncomputable def Q5d (N : Nat) : List (.u8 : Ty).T → Nat → FunA [.d (.int .i64), .d (.int .i64)] (Option (List (.u8 : Ty).T × ResO [.d (.int .i64), .d (.int .i64)])) := Q67 (El :=
 UInt8) N
theorem Qa0 (N : Nat) : runO Try.prog [Q96 N, Q7h N] [] N Try.f133 (.seq .lf (.seq .lf (.seq .lf (.seq .lf (.seq .lf (.seq .lf (.join ⟨[(11, .d (.int .i64))], [(1009, [.d (.int .i64)], some 3)], [9], [], [], [(1, .arr .u8)]⟩ .lf .lf))))))) .u8 [.d (.int .i64), .d (.int .i64)] [.d (.int .i64), .d (.int .i64)] = Q5d N := by kernel_rfl
noncomputable def Q5h (N : Nat) : Ent Try.prog := mkO 133 Try.f133 _ .u8 [.d (.int .i64), .d (.int .i64)] [.d (.int .i64), .d (.int .i64)] (Q5d N) mixed Try.func133 (.mk' Try.func133 rfl (by decide)) rfl (Qa0 N)
noncomputable def Q52 (N : Nat) : List (.u8 : Ty).T → Nat → FunA [.d (.int .i64), .d (.int .i64)] (Option (List (.u8 : Ty).T × ResO [])) := Q3q (El := UInt8) N
theorem Q9o (N : Nat) : runO Try.prog [] [] N Try.f134 (.seq .lf (.seq .lf (.blk (.loop ⟨[(6, .d (.int .i64)), (7, .d (.int .i64))], [], [0], [], [], [(1, .arr .u8)]⟩ .lf)))) .u8 [.d (.int .i64), .d (.int .i64)] [] = Q52 N := by kernel_rfl
noncomputable def Q59 (N : Nat) : Ent Try.prog := mkO 134 Try.f134 _ .u8 [.d (.int .i64), .d (.int .i64)] [] (Q52 N) mixed Try.func134 (.mk' Try.func134 rfl (by decide)) rfl (Q9o N)
noncomputable def Q2t (N : Nat) : List (.u8 : Ty).T → Nat → FunA [.d (.int .i64), .d (.int .i64)] (Option (List (.u8 : Ty).T × ResO [.d .bool])) := Q1r (El :=
 UInt8) N
theorem Q7c (N : Nat) : runO Try.prog [Q1m N] [] N Try.f135 (.seq .lf (.seq .lf (.seq (.seq .lf (.blk (.loop ⟨[(7, .d (.int .i64)), (8, .d (.int .i64))], [], [0, 1, 2], [], [], [(1, .arr .u8)]⟩ (.seq .lf (.seq (.blk (.join ⟨[(7, .d (.int .i64))], [], [0, 1, 2, 8], [1], [], []⟩ (.blk (.loop ⟨[(7, .d (.int .i64))], [], [0, 1, 2, 8], [1], [], []⟩ .lf)) (.seq .lf (.seq .lf (.seq .lf (.join ⟨[], [], [0, 1, 2, 7, 8], [], [], [(1, .arr .u8)]⟩ (.seq .lf (.cond (.seq .lf (.blk (.loop ⟨[(9, .d (.int .i64))], [], [0, 1, 2, 7, 8], [], [], [(1, .arr .u8)]⟩ .lf))) .lf)) (.seq .lf (.cond (.seq .lf (.blk (.loop ⟨[(10, .d (.int .i64))], [], [0, 1, 2, 7, 8], [], [], [(1, .arr .u8)]⟩ .lf))) .lf)))))))) .lf))))) .lf))) .u8 [.d (.int .i64), .d (.int .i64)] [.d .bool] = Q2t N := by kernel_rfl
noncomputable def Q2o (N : Nat) : Ent Try.prog := mkO 135 Try.f135 _ .u8 [.d (.int .i64), .d (.int .i64)] [.d .bool] (Q2t N) mixed Try.func135 (.mk' Try.func135 rfl (by decide)) rfl (Q7c N)
noncomputable def Q4d (N : Nat) : List (.u8 : Ty).T → Nat → FunA [.d (.int .i64), .d (.int .i64), .d (.int .i64)] (Option (List (.u8 : Ty).T × ResO [.d (.int .i64)])) := Q3o
 (El := UInt8) N
theorem Q8r (N : Nat) : runO Try.prog [Q1m N] [] N Try.f137 (.seq .lf (.seq .lf (.seq .lf (.seq (.blk (.loop ⟨[(9, .d (.int .i64)), (10, .d (.int .i64))], [], [0, 1], [], [], [(1, .arr .u8)]⟩ (.blk (.join ⟨[(9, .d (.int .i64))], [], [0, 1, 10], [1], [], []⟩ (.blk (.loop ⟨[(9, .d (.int .i64))], [], [0, 1, 10], [1], [], []⟩ .lf)) (.join ⟨[(10, .d (.int .i64))], [], [0, 1, 9], [1], [], []⟩ (.blk (.loop ⟨[(10, .d (.int .i64))], [], [0, 1, 9], [1], [], []⟩ .lf)) .lf))))) .lf)))) .u8 [.d (.int .i64), .d (.int .i64), .d (.int .i64)] [.d (.int .i64)] = Q4d N := by kernel_rfl
noncomputable def Q4h (N : Nat) : Ent Try.prog := mkO 137 Try.f137 _ .u8 [.d (.int .i64), .d (.int .i64), .d (.int .i64)] [.d (.int .i64)] (Q4d N) mixed Try.func137 (.mk' Try.func137 rfl (by decide)) rfl (Q8r N)
noncomputable def Q61 (N : Nat) : List (.u8 : Ty).T → Nat → FunA [.d (.int .i64), .d (.int .i64), .d (.int .i64)] (Option (List (.u8 : Ty).T × ResO [.d (.int .i64), .d .bool])) := Q5e
 (El := UInt8) N
theorem Qaw (N : Nat) : runO Try.prog [Q1m N] [] N Try.f138 (.seq .lf (.seq .lf (.seq .lf (.join ⟨[(10, .d (.int .i64))], [], [0, 1, 11], [1], [], []⟩ (.blk (.loop ⟨[(10, .d (.int .i64))], [], [0, 1, 11], [1], [], []⟩ .lf)) (.join ⟨[(11, .d (.int .i64))], [], [0, 1, 10], [1], [], []⟩ (.blk (.loop ⟨[(11, .d (.int .i64))], [], [0, 1, 10], [1], [], []⟩ .lf)) (.seq .lf (.seq .lf (.seq .lf (.seq .lf (.join ⟨[(11, .d (.int .i64))], [], [0, 1], [], [], [(1, .arr .u8)]⟩ (.blk (.loop ⟨[(10, .d (.int .i64)), (11, .d (.int .i64))], [], [0, 1], [], [], [(1, .arr .u8)]⟩ (.blk (.join ⟨[(10, .d (.int .i64))], [], [0, 1, 11], [1], [], []⟩ (.blk (.loop ⟨[(10, .d (.int .i64))], [], [0, 1, 11], [1], [], []⟩ .lf)) (.join ⟨[(11, .d (.int .i64))], [], [0, 1, 10], [1], [], []⟩ (.blk (.loop ⟨[(11, .d (.int .i64))], [], [0, 1, 10], [1], [], []⟩ .lf)) .lf))))) .lf)))))))))) .u8 [.d (.int .i64), .d (.int .i64), .d (.int .i64)] [.d (.int .i64), .d .bool] = Q61 N := by kernel_rfl
noncomputable def Q5z (N : Nat) : Ent Try.prog := mkO 138 Try.f138 _ .u8 [.d (.int .i64), .d (.int .i64), .d (.int .i64)] [.d (.int .i64), .d .bool] (Q61 N) mixed Try.func138 (.mk' Try.func138 rfl (by decide)) rfl (Qaw N)
noncomputable def Q72 (N : Nat) : FnO .u8 [.d (.int .i64), .d (.int .i64), .d (.int .i64)] [] → FnO .u8 [.d (.int .i64), .d (.int .i64), .d (.int .i64)] [] := Q4n (El := UInt8) N
theorem Qbd (N : Nat) (G : FnO .u8 [.d (.int .i64), .d (.int .i64), .d (.int .i64)] []) (hG : SndO Try.prog 98 .u8 [.d (.int .i64), .d (.int .i64), .d (.int .i64)] [] G) : runO Try.prog [Q4s N, Q6d N, Q4y N, Q5h N, Q59 N, Q2o N, Q1m N, Q4h N, Q5z N, (Qsz 98 .u8 [.d (.int .i64), .d (.int .i64), .d (.int .i64)] [] G (.mk' Try.func98 rfl (by decide)) hG)] [] N Try.f98 (.seq .lf (.seq .lf (.blk (.loop ⟨[(1, .d (.int .i64)), (2, .d (.int .i64)), (3, .d (.int .i64)), (8, .d .bool), (9, .d .bool)], [], [0], [], [], [(1, .arr .u8)]⟩ (.blk (.seq .lf (.seq .lf (.seq .lf (.join ⟨[(3, .d (.int .i64))], [], [0, 1, 2, 8, 9, 10], [], [], [(1, .arr .u8)]⟩ .lf (.seq .lf (.join ⟨[(11, .d (.int .i64)), (12, .d (.int .i64))], [], [0, 1, 2, 3, 8, 9, 10], [], [], [(1, .arr .u8)]⟩ .lf (.join ⟨[], [], [0, 1, 2, 3, 8, 9, 10, 11], [], [], [(1, .arr .u8)]⟩ .lf .lf)))))))))))) .u8 [.d (.int .i64), .d (.int .i64), .d (.int .i64)] [] = Q72 N G := by kernel_rfl
noncomputable def Q73 (N : Nat) : FnO .u8 [.d (.int .i64), .d (.int .i64), .d (.int .i64)] [] := recO (Q72 N) N
theorem Qbr (N : Nat) : SndO Try.prog 98 .u8 [.d (.int .i64), .d (.int .i64), .d (.int .i64)] [] (Q73 N) := Qdj (fun G hG l k => Qbd N G hG ▸ Q9l mixed Try.func98 rfl l k) N
noncomputable def F0_slices_pdqsortOrdered_uint8 (N : Nat) : FunA [.d (.int .i64), .d (.int .i64), .d (.int .i64)] (Option (ResT (rkTys .u8 []))) := fun (x x_1 x_2 : Int) => iter (fun (rec : (Int × Int × Int × Bool ×
 Bool × Unit) × Unit × Unit × Unit → Option Unit) (z : (Int × Int × Int × Bool × Bool × Unit) × Unit × Unit × Unit) => bif decide (IntKind.i64.wrap (z.1.2.1 - z.1.1) ≤ 12) then Option.bind
 (F0_slices_insertionSortOrdered_uint8 N z.1.1 z.1.2.1) fun (y : Unit) => some () else bif z.1.2.2.1 == 0 then none else Ql (fun (z : (Int × Unit) × Unit × Unit × Unit) => none) fun (k : (Int ×
 Unit) × Unit × Unit × Unit → Option Unit) => bif !z.1.2.2.2.1 then none else k ((z.1.2.2.1, ()), (), (), ())) N ((x, x_1, x_2, true, true, ()), (), (), ())
theorem Qbe (N : Nat) : runO0 Try.prog [Q4s N, Q6d N, Q4y N, Q5h N, Q59 N, Q2o N, Q1m N, Q4h N, Q5z N] [] N Try.f98 (.seq .lf (.seq .lf (.blk (.loop ⟨[(1, .d (.int .i64)), (2, .d (.int .i64)), (3, .d (.int .i64)), (8, .d .bool), (9, .d .bool)], [], [0], [], [], []⟩ (.blk (.seq .lf (.seq .lf (.seq .lf (.join ⟨[(3, .d (.int .i64))], [], [0, 1, 2, 8, 9, 10], [], [], []⟩ .lf (.seq .lf (.join ⟨[(11, .d (.int .i64)), (12, .d (.int .i64))], [], [0, 1, 2, 3, 8, 9, 10], [], [], []⟩ .lf (.join ⟨[], [], [0, 1, 2, 3, 8, 9, 10, 11], [], [], []⟩ .lf .lf)))))))))))) .u8 [.d (.int .i64), .d (.int .i64), .d (.int .i64)] [] = F0_slices_pdqsortOrdered_uint8 N := by kernel_rfl
noncomputable def e_slices_pdqsortOrdered_uint8 (N : Nat) : Ent Try.prog := Qoz 98 .u8 [.d (.int .i64), .d (.int .i64), .d (.int .i64)] [] (Q73 N) (F0_slices_pdqsortOrdered_uint8 N) (.mk' Try.func98 rfl (by decide)) (Qbr N) (Qbe N ▸ Q9x mixed Try.func98 rfl)
noncomputable def F0_slices_Sort_suint8_uint8 (N : Nat) : FunA [] (Option (ResT (rkTys .u8 []))) := Option.bind (F_math_bits_Len N 0) fun (y : Int) => Option.bind (F0_slices_pdqsortOrdered_uint8 N 0 0 y) fun (y : Unit)
 => some ()
theorem E0_slices_Sort_suint8_uint8 (N : Nat) : runO0 Try.prog [e_math_bits_Len N, e_slices_pdqsortOrdered_uint8 N] [] N Try.f72 .lf .u8 [] [] = F0_slices_Sort_suint8_uint8 N := by kernel_rfl
noncomputable def F_slices_Sort_suint8_uint8 (N : Nat) : List (.u8 : Ty).T → Nat → FunA [] (Option (List (.u8 : Ty).T × ResO [])) := Qjy (El := UInt8) N
theorem E_slices_Sort_suint8_uint8 (N : Nat) : runO Try.prog [e_math_bits_Len N, e_slices_pdqsortOrdered_uint8 N] [] N Try.f72 .lf .u8 [] [] = F_slices_Sort_suint8_uint8 N := by kernel_rfl
end Go.Proofs.Xu
set_option linter.unusedVariables false
set_option maxRecDepth 100000
namespace Go.Proofs.Xu
open Go Go.Xl Go.Ab Go.Proofs
noncomputable def Q1v (N : Nat) : FunA [.d (.int .i64), .d (.int .i64)] (Option (ResT (rkTys .str []))) := fun (x x_1 : Int) => iter (fun (rec : (Int × Unit) × Unit × Unit × Unit →
 Option Unit) (z : (Int × Unit) × Unit × Unit × Unit) => bif decide (z.1.1 < x_1) then iter (fun (rec_1 : (Int × Unit) × Unit × Unit × Unit → Option Unit) (z_1 : (Int × Unit) × Unit × Unit × Unit) => Ql (fun (z :
 Unit × Unit × Unit × Unit) => (at? [] (IntKind.i64.wrap (z_1.1.1 - 1))).bind fun (e : List UInt8) => (at? [] z_1.1.1).bind fun (e : List UInt8) => (at? [] z_1.1.1).bind fun (e : List UInt8) => none) fun (k :
 Unit × Unit × Unit × Unit → Option Unit) => bif decide (x < z_1.1.1) then (at? [] z_1.1.1).bind fun (e : List UInt8) => (at? [] (IntKind.i64.wrap (z_1.1.1 - 1))).bind fun (e_1 : List UInt8) => Option.bind
 (Q3b N e e_1) fun (y : Bool) => bif y then k ((), (), (), ()) else rec ((IntKind.i64.wrap (z.1.1 + 1), ()), (), (), ()) else rec ((IntKind.i64.wrap (z.1.1 + 1), ()), (), (), ())) N ((z.1.1,
 ()), (), (), ()) else some ()) N ((IntKind.i64.wrap (x + 1), ()), (), (), ())
theorem Q8f (N : Nat) : runO0 Try.prog [Q1f N] [] N Try.f162 (.seq .lf (.blk (.loop ⟨[(6, .d (.int .i64))], [], [0, 1, 2], [], [], []⟩ (.seq .lf (.seq (.blk (.seq .lf (.blk (.loop ⟨[(7, .d (.int .i64))], [], [0, 1, 2, 6], [], [], []⟩ (.join ⟨[], [], [0, 1, 2, 6, 7], [], [], []⟩ .lf .lf))))) .lf))))) .str [.d (.int .i64), .d (.int .i64)] [] = Q1v N := by kernel_rfl
noncomputable def Q4c (N : Nat) : List (.str : Ty).T → Nat → FunA [.d (.int .i64), .d (.int .i64)] (Option (List (.str : Ty).T × ResO [])) := Q4p (El := List UInt8) N
theorem Q8w (N : Nat) : runO Try.prog [Q1f N] [] N Try.f162 (.seq .lf (.blk (.loop ⟨[(6, .d (.int .i64))], [], [0, 1, 2], [], [], [(1, .arr .str)]⟩ (.seq .lf (.seq (.blk (.seq .lf (.blk (.loop ⟨[(7, .d (.int .i64))], [], [0, 1, 2, 6], [], [], [(1, .arr .str)]⟩ (.join ⟨[], [], [0, 1, 2, 6, 7], [1], [], []⟩ .lf .lf))))) .lf))))) .str [.d (.int .i64), .d (.int .i64)] [] = Q4c N := by kernel_rfl
noncomputable def Q4e (N : Nat) : Ent Try.prog := mkO2 162 Try.f162 _ _ .str [.d (.int .i64), .d (.int .i64)] [] (Q4c N) (Q1v N) mixed Try.func162 (.mk' Try.func162 rfl (by decide)) rfl (Q8w N) (Q8f N)
noncomputable def Q62 (N : Nat) : List (.str : Ty).T → Nat → FunA [.d (.int .i64), .d (.int .i64), .d (.int .i64)] (Option (List (.str : Ty).T × ResO [])) := Q7o (El := List UInt8) N
theorem Qat (N : Nat) : runO Try.prog [Q1f N] [] N Try.f180 (.seq .lf (.blk (.loop ⟨[(8, .d (.int .i64))], [], [0, 2, 3], [], [], [(1, .arr .str)]⟩ (.blk (.seq .lf (.seq .lf (.join ⟨[(9, .d (.int .i64))], [], [0, 2, 3, 8], [1], [], []⟩ .lf .lf))))))) .str [.d (.int .i64), .d (.int .i64), .d (.int .i64)] [] = Q62 N := by kernel_rfl
noncomputable def Qau (N : Nat) : Ent Try.prog := mkO 180 Try.f180 _ .str [.d (.int .i64), .d (.int .i64), .d (.int .i64)] [] (Q62 N) mixed Try.func180 (.mk' Try.func180 rfl (by decide)) rfl (Qat N)
noncomputable def Q63 (N : Nat) : List (.str : Ty).T → Nat → FunA [.d (.int .i64), .d (.int .i64)] (Option (List (.str : Ty).T × ResO [])) := Q9h (El := List UInt8) N
theorem Qax (N : Nat) : runO Try.prog [Qau N] [] N Try.f163 (.seq .lf (.seq .lf (.seq .lf (.seq (.seq .lf (.blk (.loop ⟨[(9, .d (.int .i64))], [], [0, 6, 7, 8], [], [], [(1, .arr .str)]⟩ .lf))) (.seq .lf (.blk (.loop ⟨[(10, .d (.int .i64))], [], [0, 6, 7], [], [], [(1, .arr .str)]⟩ .lf))))))) .str [.d (.int .i64), .d (.int .i64)] [] = Q63 N := by kernel_rfl
noncomputable def Q5y (N : Nat) : Ent Try.prog := mkO 163 Try.f163 _ .str [.d (.int .i64), .d (.int .i64)] [] (Q63 N) mixed Try.func163 (.mk' Try.func163 rfl (by decide)) rfl (Qax N)
noncomputable def Q45 (N : Nat) : List (.str : Ty).T → Nat → FunA [.d (.int .i64), .d (.int .i64)] (Option (List (.str : Ty).T × ResO [])) := Q35 (El := List UInt8) N
theorem Q91 (N : Nat) : runO Try.prog [Q64 N, Q6v N] [] N Try.f164 (.seq .lf (.seq .lf (.cond (.seq .lf (.seq .lf (.seq .lf (.blk (.loop ⟨[(9, .d (.int .i64))], [(1007, [.d (.int .u64)], some 163)], [0, 1, 6, 7, 8], [], [], [(1, .arr .str)]⟩ (.seq .lf (.seq (.blk (.seq .lf (.join ⟨[(10, .d (.int .i64))], [], [0, 1, 6, 7, 8, 9], [1, 1007], [], []⟩ .lf .lf))) .lf))))))) .lf))) .str [.d (.int .i64), .d (.int .i64)] [] = Q45 N := by kernel_rfl
noncomputable def Q4a (N : Nat) : Ent Try.prog := mkO 164 Try.f164 _ .str [.d (.int .i64), .d (.int .i64)] [] (Q45 N) mixed Try.func164 (.mk' Try.func164 rfl (by decide)) rfl (Q91 N)
@[reducible] def Q1w : CSp := ⟨[.os 1 .str, .d (.int .i64), .d (.int .i64), .p 2 0], [(2, [.d (.int .i64)], some 3)], [(1, .arr .str)], ⟨[(8, .d (.int .i64)), (9, .d (.int .i64))], [(2, [.d (.int .i64)], some 3)], [], [1], [], []⟩⟩
noncomputable def Q6y (N : Nat) : CSp.Fun Q1w (Option Q1w.out.T) := Q8y (El := List UInt8) N
theorem Qbo (N : Nat) : runC Try.prog [Q1f N] [] N Try.f195 .lf Q1w = Q6y N := by kernel_rfl
noncomputable def Qbn (N : Nat) : Ent Try.prog := mkC 195 Try.f195 _ Q1w (Q6y N) mixed Try.func195 (.mk' Try.func195 rfl (by decide)) rfl rfl rfl (Qbo N)
@[reducible] def Q1x : CSp := ⟨[.os 1 .str, .d (.int .i64), .d (.int .i64), .d (.int .i64), .p 2 0], [(2, [.d (.int .i64)], some 3)], [(1, .arr .str)], ⟨[(10, .d (.int .i64))], [(2, [.d (.int .i64)], some 3)], [], [1], [], []⟩⟩
noncomputable def Q6z (N : Nat) : CSp.Fun Q1x (Option Q1x.out.T) := Q8i (El := List UInt8) N
theorem Qbm (N : Nat) : runC Try.prog [Qbn N] [] N Try.f182 .lf Q1x = Q6z N := by kernel_rfl
noncomputable def Q75 (N : Nat) : Ent Try.prog := mkC 182 Try.f182 _ Q1x (Q6z N) mixed Try.func182 (.mk' Try.func182 rfl (by decide)) rfl rfl rfl (Qbm N)
@[reducible] def Q17 : CSp := ⟨[.os 1 .str, .d (.int .i64), .p 2 0], [(2, [.d (.int .i64)], some 3)], [(1, .arr .str)], ⟨[(6, .d (.int .i64))], [(2, [.d (.int .i64)], some 3)], [], [1], [], []⟩⟩
noncomputable def Q3v (N : Nat) : CSp.Fun Q17 (Option Q17.out.T) := Q23 (El := List UInt8) N
theorem Q8b (N : Nat) : runC Try.prog [Q75 N] [] N Try.f181 .lf Q17 = Q3v N := by kernel_rfl
noncomputable def Q8e (N : Nat) : Ent Try.prog := mkC 181 Try.f181 _ Q17 (Q3v N) mixed Try.func181 (.mk' Try.func181 rfl (by decide)) rfl rfl rfl (Q8b N)
noncomputable def Q55 (N : Nat) : List (.str : Ty).T → Nat → FunA [.d (.int .i64), .d (.int .i64)] (Option (List (.str : Ty).T × ResO [.d (.int .i64), .d (.int .i64)])) := Q67 (El
 := List UInt8) N
theorem Q9p (N : Nat) : runO Try.prog [Q8e N, Q75 N] [] N Try.f165 (.seq .lf (.seq .lf (.seq .lf (.seq .lf (.seq .lf (.seq .lf (.join ⟨[(11, .d (.int .i64))], [(1009, [.d (.int .i64)], some 3)], [9], [], [], [(1, .arr .str)]⟩ .lf .lf))))))) .str [.d (.int .i64), .d (.int .i64)] [.d (.int .i64), .d (.int .i64)] = Q55 N := by kernel_rfl
noncomputable def Q56 (N : Nat) : Ent Try.prog := mkO 165 Try.f165 _ .str [.d (.int .i64), .d (.int .i64)] [.d (.int .i64), .d (.int .i64)] (Q55 N) mixed Try.func165 (.mk' Try.func165 rfl (by decide)) rfl (Q9p N)
noncomputable def Q4x (N : Nat) : List (.str : Ty).T → Nat → FunA [.d (.int .i64), .d (.int .i64)] (Option (List (.str : Ty).T × ResO [])) := Q3q (El := List UInt8) N
theorem Q9b (N : Nat) : runO Try.prog [] [] N Try.f166 (.seq .lf (.seq .lf (.blk (.loop ⟨[(6, .d (.int .i64)), (7, .d (.int .i64))], [], [0], [], [], [(1, .arr .str)]⟩ .lf)))) .str [.d (.int .i64), .d (.int .i64)] [] = Q4x N := by kernel_rfl
noncomputable def Q4u (N : Nat) : Ent Try.prog := mkO 166 Try.f166 _ .str [.d (.int .i64), .d (.int .i64)] [] (Q4x N) mixed Try.func166 (.mk' Try.func166 rfl (by decide)) rfl (Q9b N)
noncomputable def Q2h (N : Nat) : List (.str : Ty).T → Nat → FunA [.d (.int .i64), .d (.int .i64)] (Option (List (.str : Ty).T × ResO [.d .bool])) := Q1r (El :=
 List UInt8) N
theorem Q76 (N : Nat) : runO Try.prog [Q1f N] [] N Try.f167 (.seq .lf (.seq .lf (.seq (.seq .lf (.blk (.loop ⟨[(7, .d (.int .i64)), (8, .d (.int .i64))], [], [0, 1, 2], [], [], [(1, .arr .str)]⟩ (.seq .lf (.seq (.blk (.join ⟨[(7, .d (.int .i64))], [], [0, 1, 2, 8], [1], [], []⟩ (.blk (.loop ⟨[(7, .d (.int .i64))], [], [0, 1, 2, 8], [1], [], []⟩ .lf)) (.seq .lf (.seq .lf (.seq .lf (.join ⟨[], [], [0, 1, 2, 7, 8], [], [], [(1, .arr .str)]⟩ (.seq .lf (.cond (.seq .lf (.blk (.loop ⟨[(9, .d (.int .i64))], [], [0, 1, 2, 7, 8], [], [], [(1, .arr .str)]⟩ .lf))) .lf)) (.seq .lf (.cond (.seq .lf (.blk (.loop ⟨[(10, .d (.int .i64))], [], [0, 1, 2, 7, 8], [], [], [(1, .arr .str)]⟩ .lf))) .lf)))))))) .lf))))) .lf))) .str [.d (.int .i64), .d (.int .i64)] [.d .bool] = Q2h N := by kernel_rfl
noncomputable def Q2g (N : Nat) : Ent Try.prog := mkO 167 Try.f167 _ .str [.d (.int .i64), .d (.int .i64)] [.d .bool] (Q2h N) mixed Try.func167 (.mk' Try.func167 rfl (by decide)) rfl (Q76 N)
noncomputable def Q3y (N : Nat) : List (.str : Ty).T → Nat → FunA [.d (.int .i64), .d (.int .i64), .d (.int .i64)] (Option (List (.str : Ty).T × ResO [.d (.int .i64)])) :=
 Q3o (El := List UInt8) N
theorem Q8c (N : Nat) : runO Try.prog [Q1f N] [] N Try.f169 (.seq .lf (.seq .lf (.seq .lf (.seq (.blk (.loop ⟨[(9, .d (.int .i64)), (10, .d (.int .i64))], [], [0, 1], [], [], [(1, .arr .str)]⟩ (.blk (.join ⟨[(9, .d (.int .i64))], [], [0, 1, 10], [1], [], []⟩ (.blk (.loop ⟨[(9, .d (.int .i64))], [], [0, 1, 10], [1], [], []⟩ .lf)) (.join ⟨[(10, .d (.int .i64))], [], [0, 1, 9], [1], [], []⟩ (.blk (.loop ⟨[(10, .d (.int .i64))], [], [0, 1, 9], [1], [], []⟩ .lf)) .lf))))) .lf)))) .str [.d (.int .i64), .d (.int .i64), .d (.int .i64)] [.d (.int .i64)] = Q3y N := by kernel_rfl
noncomputable def Q3x (N : Nat) : Ent Try.prog := mkO 169 Try.f169 _ .str [.d (.int .i64), .d (.int .i64), .d (.int .i64)] [.d (.int .i64)] (Q3y N) mixed Try.func169 (.mk' Try.func169 rfl (by decide)) rfl (Q8c N)
noncomputable def Q5s (N : Nat) : List (.str : Ty).T → Nat → FunA [.d (.int .i64), .d (.int .i64), .d (.int .i64)] (Option (List (.str : Ty).T × ResO [.d (.int .i64), .d .bool])) :=
 Q5e (El := List UInt8) N
theorem Qab (N : Nat) : runO Try.prog [Q1f N] [] N Try.f170 (.seq .lf (.seq .lf (.seq .lf (.join ⟨[(10, .d (.int .i64))], [], [0, 1, 11], [1], [], []⟩ (.blk (.loop ⟨[(10, .d (.int .i64))], [], [0, 1, 11], [1], [], []⟩ .lf)) (.join ⟨[(11, .d (.int .i64))], [], [0, 1, 10], [1], [], []⟩ (.blk (.loop ⟨[(11, .d (.int .i64))], [], [0, 1, 10], [1], [], []⟩ .lf)) (.seq .lf (.seq .lf (.seq .lf (.seq .lf (.join ⟨[(11, .d (.int .i64))], [], [0, 1], [], [], [(1, .arr .str)]⟩ (.blk (.loop ⟨[(10, .d (.int .i64)), (11, .d (.int .i64))], [], [0, 1], [], [], [(1, .arr .str)]⟩ (.blk (.join ⟨[(10, .d (.int .i64))], [], [0, 1, 11], [1], [], []⟩ (.blk (.loop ⟨[(10, .d (.int .i64))], [], [0, 1, 11], [1], [], []⟩ .lf)) (.join ⟨[(11, .d (.int .i64))], [], [0, 1, 10], [1], [], []⟩ (.blk (.loop ⟨[(11, .d (.int .i64))], [], [0, 1, 10], [1], [], []⟩ .lf)) .lf))))) .lf)))))))))) .str [.d (.int .i64), .d (.int .i64), .d (.int .i64)] [.d (.int .i64), .d .bool] = Q5s N := by kernel_rfl
noncomputable def Q5q (N : Nat) : Ent Try.prog := mkO 170 Try.f170 _ .str [.d (.int .i64), .d (.int .i64), .d (.int .i64)] [.d (.int .i64), .d .bool] (Q5s N) mixed Try.func170 (.mk' Try.func170 rfl (by decide)) rfl (Qab N)
noncomputable def Q6l (N : Nat) : FnO .str [.d (.int .i64), .d (.int .i64), .d (.int .i64)] [] → FnO .str [.d (.int .i64), .d (.int .i64), .d (.int .i64)] [] := Q4n (El := List UInt8) N
theorem Qay (N : Nat) (G : FnO .str [.d (.int .i64), .d (.int .i64), .d (.int .i64)] []) (hG : SndO Try.prog 139 .str [.d (.int .i64), .d (.int .i64), .d (.int .i64)] [] G) : runO Try.prog [(Qsz 139 .str [.d (.int .i64), .d (.int .i64), .d (.int .i64)] [] G (.mk' Try.func139 rfl (by decide)) hG), Q4e N, Q5y N, Q4a N, Q56 N, Q4u N, Q2g N, Q1f N, Q3x N, Q5q N] [] N Try.f139 (.seq .lf (.seq .lf (.blk (.loop ⟨[(1, .d (.int .i64)), (2, .d (.int .i64)), (3, .d (.int .i64)), (8, .d .bool), (9, .d .bool)], [], [0], [], [], [(1, .arr .str)]⟩ (.blk (.seq .lf (.seq .lf (.seq .lf (.join ⟨[(3, .d (.int .i64))], [], [0, 1, 2, 8, 9, 10], [], [], [(1, .arr .str)]⟩ .lf (.seq .lf (.join ⟨[(11, .d (.int .i64)), (12, .d (.int .i64))], [], [0, 1, 2, 3, 8, 9, 10], [], [], [(1, .arr .str)]⟩ .lf (.join ⟨[], [], [0, 1, 2, 3, 8, 9, 10, 11], [], [], [(1, .arr .str)]⟩ .lf .lf)))))))))))) .str [.d (.int .i64), .d (.int .i64), .d (.int .i64)] [] = Q6l N G := by kernel_rfl
noncomputable def Q6o (N : Nat) : FnO .str [.d (.int .i64), .d (.int .i64), .d (.int .i64)] [] := recO (Q6l N) N
theorem Qb9 (N : Nat) : SndO Try.prog 139 .str [.d (.int .i64), .d (.int .i64), .d (.int .i64)] [] (Q6o N) := Qdj (fun G hG l k => Qay N G hG ▸ Q9l mixed Try.func139 rfl l k) N
noncomputable def Q2u (N : Nat) : FunA [.d (.int .i64), .d (.int .i64), .d (.int .i64)] (Option (ResT (rkTys .str []))) := fun (x x_1 x_2 : Int) => iter (fun (rec : (Int × Int × Int × Bool ×
 Bool × Unit) × Unit × Unit × Unit → Option Unit) (z : (Int × Int × Int × Bool × Bool × Unit) × Unit × Unit × Unit) => bif decide (IntKind.i64.wrap (z.1.2.1 - z.1.1) ≤ 12) then Option.bind
 (Q1v N z.1.1 z.1.2.1) fun (y : Unit) => some () else bif z.1.2.2.1 == 0 then none else Ql (fun (z : (Int × Unit) × Unit × Unit × Unit) => none) fun (k : (Int ×
 Unit) × Unit × Unit × Unit → Option Unit) => bif !z.1.2.2.2.1 then none else k ((z.1.2.2.1, ()), (), (), ())) N ((x, x_1, x_2, true, true, ()), (), (), ())
theorem Qas (N : Nat) : runO0 Try.prog [Q4e N, Q5y N, Q4a N, Q56 N, Q4u N, Q2g N, Q1f N, Q3x N, Q5q N] [] N Try.f139 (.seq .lf (.seq .lf (.blk (.loop ⟨[(1, .d (.int .i64)), (2, .d (.int .i64)), (3, .d (.int .i64)), (8, .d .bool), (9, .d .bool)], [], [0], [], [], []⟩ (.blk (.seq .lf (.seq .lf (.seq .lf (.join ⟨[(3, .d (.int .i64))], [], [0, 1, 2, 8, 9, 10], [], [], []⟩ .lf (.seq .lf (.join ⟨[(11, .d (.int .i64)), (12, .d (.int .i64))], [], [0, 1, 2, 3, 8, 9, 10], [], [], []⟩ .lf (.join ⟨[], [], [0, 1, 2, 3, 8, 9, 10, 11], [], [], []⟩ .lf .lf)))))))))))) .str [.d (.int .i64), .d (.int .i64), .d (.int .i64)] [] = Q2u N := by kernel_rfl
noncomputable def Q6b (N : Nat) : Ent Try.prog := Qoz 139 .str [.d (.int .i64), .d (.int .i64), .d (.int .i64)] [] (Q6o N) (Q2u N) (.mk' Try.func139 rfl (by decide)) (Qb9 N) (Qas N ▸ Q9x mixed Try.func139 rfl)
noncomputable def Q3f (N : Nat) : FunA [] (Option (ResT (rkTys .str []))) := Option.bind (F_math_bits_Len N 0) fun (y : Int) => Option.bind (Q2u N 0 0 y) fun (y :
 Unit) => some ()
theorem Qbq (N : Nat) : runO0 Try.prog [Q6b N, e_math_bits_Len N] [] N Try.f103 .lf .str [] [] = Q3f N := by kernel_rfl
noncomputable def F_slices_Sort_sstring_string (N : Nat) : List (.str : Ty).T → Nat → FunA [] (Option (List (.str : Ty).T × ResO [])) := Qjy (El := List UInt8) N
theorem Qca (N : Nat) : runO Try.prog [Q6b N, e_math_bits_Len N] [] N Try.f103 .lf .str [] [] = F_slices_Sort_sstring_string N := by kernel_rfl
noncomputable def Qcc (N : Nat) : Ent Try.prog := mkO2 103 Try.f103 _ _ .str [] [] (F_slices_Sort_sstring_string N) (Q3f N) mixed Try.func103 (.mk' Try.func103 rfl (by decide)) rfl (Qca N) (Qbq N)
end Go.Proofs.Xu
set_option maxRecDepth 100000
namespace Go.Proofs.Xu
open Go Go.Xl Go.Ab Go.Proofs Go.Sort
namespace B
def ltU (x y : UInt8) : Bool := decide (x < y)
def srt (l : List UInt8) : List UInt8 := l.mergeSort (fun x y => !ltU y x)
theorem Sort_eq (N : Nat) (l : List UInt8) (hl : l.length ≤ 1000000000000) (hN : 1000000000000 < N) : F_slices_Sort_suint8_uint8 N l l.length = some (srt l, ()) := Xu.Sort_eq N l hl hN
end B
namespace S
def srt (l : List (List UInt8)) : List (List UInt8) := l.mergeSort (fun x y => !Op.bytesLess y x)
theorem Sort_eq (N : Nat) (l : List (List UInt8)) (hl : l.length ≤ 1000000000000) (hN : 1000000000000 < N) : F_slices_Sort_sstring_string N l l.length = some (srt l, ()) := Xu.Sort_eq N l hl hN
end S
namespace U
def srt (l : List Int) : List Int := l.mergeSort (fun x y => !decide (y < x))
theorem Sort_eq (N : Nat) (l : List Int) (hl : l.length ≤ 1000000000000) (hN : 1000000000000 < N) : F_slices_Sort_suint64_uint64 N l l.length = some (srt l, ()) := Xu.Sort_eq N l hl hN
end U
end Go.Proofs.Xu
set_option linter.unusedVariables false
set_option linter.unusedSimpArgs false
set_option maxRecDepth 100000
namespace Go.Proofs.Xg
open Go Go.Ab Go.Xl Go.Proofs
theorem seqI : SeqI where
 map := tyI_I (by kernel_rfl)
 und := ⟨_, _, Try.underlying64⟩
 sl := tyI_I (by kernel_rfl)
def srt8 (l : List UInt8) : List UInt8 := Xu.B.srt l
theorem Qfk (l : List UInt8) : (srt8 l).Perm l := List.mergeSort_perm l _
theorem Qln (l : List UInt8) : (srt8 l).Pairwise (fun x y => x ≤ y) := by
 have := List.pairwise_mergeSort (le := fun x y => !Xu.B.ltU y x) (by
  intro a b c h1 h2
  simp only [Xu.B.ltU, Bool.not_eq_true', decide_eq_false_iff_not, UInt8.lt_iff_toNat_lt] at *
  omega) (by
  intro a b
  simp only [Xu.B.ltU, Bool.or_eq_true, Bool.not_eq_true', decide_eq_false_iff_not, UInt8.lt_iff_toNat_lt]
  omega) l
 refine this.imp ?_
 intro a b h
 simp only [Xu.B.ltU, Bool.not_eq_true', decide_eq_false_iff_not, UInt8.lt_iff_toNat_lt] at h
 rw [UInt8.le_iff_toNat_le]; omega
theorem Qlq {l l' : List UInt8} (h : l.Perm l') (hs : l'.Pairwise (fun x y => x ≤ y)) : srt8 l = l' := by
 refine List.Perm.eq_of_pairwise (le := fun x y : UInt8 => x ≤ y) (fun a b _ _ h1 h2 => ?_) (Qln l) hs ((Qfk l).trans h)
 rw [UInt8.le_iff_toNat_le] at h1 h2
 exact UInt8.toNat_inj.1 (by omega)
theorem len0 (N : Nat) : Xu.F_math_bits_Len N 0 = some 0 := by kernel_rfl
theorem Q12f : Xu.F0_slices_Sort_suint8_uint8 2000000000000 = some () := by
 unfold Xu.F0_slices_Sort_suint8_uint8 Xu.F0_slices_pdqsortOrdered_uint8
 rw [len0, Option.bind_some]
 obtain ⟨N, hN⟩ : ∃ N, (2000000000000 : Nat) = N + 1 := ⟨1999999999999, rfl⟩
 rw [hN]
 unfold Xu.F0_slices_insertionSortOrdered_uint8
 simp only [iter]
 rfl
theorem sortI : SortI srt8 where
 sorts l hl hlen := by
  have h := Q9l (P := Try.prog) (Γ := [Xu.e_slices_pdqsortOrdered_uint8 2000000000000, Xu.e_math_bits_Len 2000000000000]) (own := []) (N := 2000000000000) (an := .lf) (ks := []) (rs := []) Xu.mixed Try.func72 rfl l l.length
  have e : runO Try.prog [Xu.e_slices_pdqsortOrdered_uint8 2000000000000, Xu.e_math_bits_Len 2000000000000] [] 2000000000000 Try.f72 .lf .u8 [] [] = Xu.F_slices_Sort_suint8_uint8 2000000000000 := Xu.E_slices_Sort_suint8_uint8 2000000000000
  rw [e] at h
  exact h (srt8 l, ()) (Xu.B.Sort_eq 2000000000000 l hlen (by decide))
 nil := by
  have h := Q9x (P := Try.prog) (Γ := [Xu.e_slices_pdqsortOrdered_uint8 2000000000000, Xu.e_math_bits_Len 2000000000000]) (own := []) (N := 2000000000000) (an := .lf) (t := .u8) (ks := []) (rs := []) Xu.mixed Try.func72 rfl
  have e : runO0 Try.prog [Xu.e_slices_pdqsortOrdered_uint8 2000000000000, Xu.e_math_bits_Len 2000000000000] [] 2000000000000 Try.f72 .lf .u8 [] [] = Xu.F0_slices_Sort_suint8_uint8 2000000000000 := Xu.E0_slices_Sort_suint8_uint8 2000000000000
  rw [e] at h
  exact h () Q12f
 len l := (Qfk l).length_eq
 perm l l' h := Qlq (h.trans (Qfk l').symm) (Qln l')
theorem Qwz (w : World) (mb : Nat) : Calls Try.prog 41 #[.map (some mb)] w fun r w' => r = .returned (.func (.func 73) #[] #[.pointer (some ⟨w.heap.size, 0, none⟩)]) ∧ w' = w.alloc (.cells #[.map (some mb)] 64) := by
 have hF : ∀ f, Fence.wide.fn f := fun _ => trivial
 refine (callsIn_wide (n := 0)).1 (callsIn_of_wp Try.func41 rfl trivial ?_ rfl)
 generalize hA : ({ tmps := #[.map (some mb)] ++ Array.replicate (Try.f41.ntmps - (#[Value.map (some mb)] : Array Value).size) undef, defers := [] } : Act) = A
 have a1 : A.tmps.size = 4 := by rw [← hA]; simp [Try.f41]
 have a2 : A.defers = [] := by rw [← hA]
 have a3 : A.eval (.tmp 0) = .map (some mb) := by rw [← hA]; simp [Act.eval, Try.f41, Array.getD]
 clear hA
 refine wpIn_seq (wpIn_region_list ?_)
 refine Qi hF (v := .pointer (some ⟨w.heap.size, 0, none⟩)) (w' := w.alloc (.cells #[.map (some mb)] 64)) rfl (by simp) ?_ ?_
 ·simp only [execOp, a3]
  simp [Instr.box, newVar, Go.newRow, Value.cells]
 refine Qi hF (v := .nilFunc) (w' := w.alloc (.cells #[.map (some mb)] 64)) rfl (by simp) rfl (wpListIn_nil ?_)
 refine wpIn_seq (wpIn_region_list ?_)
 refine Qi hF (v := .func (.func 73) #[] #[.pointer (some ⟨w.heap.size, 0, none⟩)]) (w' := w.alloc (.cells #[.map (some mb)] 64)) rfl (by simp) ?_ ?_
 ·simp only [execOp]
  have : (Act.put (Act.put A (some 1) (.pointer (some ⟨w.heap.size, 0, none⟩))) (some 2) .nilFunc).eval (.tmp 1) = .pointer (some ⟨w.heap.size, 0, none⟩) := by
   rw [Qd (by decide), Qo (by omega)]
  simp [Instr.makeFunc, this]
 refine Qi hF (v := .func (.func 73) #[] #[.pointer (some ⟨w.heap.size, 0, none⟩)]) (w' := w.alloc (.cells #[.map (some mb)] 64)) rfl (by simp) ?_ (wpListIn_nil (wpIn_ret ?_))
 ·simp only [execOp]
  rw [Qo (by rw [Q5, Q5]; omega)]
  rfl
 ·exact Qox rfl a2 (Qo (by rw [Q5, Q5, Q5]; omega)) ⟨rfl, rfl⟩
def Qp1 {R : Type} (o : Oper) (st : XSt) (vs : List XV) (K : Out → Option R) : Option R :=
 match o.op, vs, newName o with
 | .call c, [.nm k .m], some b => match c.args.toList with
  | [x] => cond (Nat.beq k b) none (cond (fresh b st) (K ⟨.all, .clo 73 [.nm b (.p 0)], [(x, .nm k .m)], (b, .cells [.nm k .m] (some 64)) :: st.objs, st.live, [b], [b]⟩) none)
  | _ => none
 | _, _, _ => none
theorem Qzs {st : XSt} {x : Operand} {v : XV} (h : Qm st [x] = some [v]) : xeval st x = some v := by
 simp only [Qm] at h
 split at h
 ·rename_i y ys hy hys
  simp only [Option.some.injEq, List.cons.injEq] at h
  obtain ⟨rfl, _⟩ := h
  exact hy
 ·cases h
theorem Qxp {R : Type} (o : Oper) (st : XSt) (args : Array Operand) (ts : Array TypeId) (vs : List XV) (K : Out → Option R) (r : R)
  (ho : o.op = .call { callee := .value (.func 41), args := args, argTypes := ts }) (hv : Qm st args.toList = some vs) (h : Qp1 o st vs K = some r) : ∃ out, K out = some r ∧ OpOk Try.prog o st out := by
 unfold Qp1 at h
 rw [ho] at h
 split at h
 ·rename_i c k b hc hb
  cases hc
  split at h
  ·rename_i x hx
   have ha : args = #[x] := Array.toList_inj.1 hx
   subst ha
   cases hkb : Nat.beq k b with
   | true => simp [hkb] at h
   | false =>
   have hne : k ≠ b := Nat.ne_of_beq_eq_false hkb
   cases hf : fresh b st with
   | false => simp [hkb, hf] at h
   | true =>
    simp only [hkb, hf, cond_true, cond_false] at h
    obtain ⟨h1, h2⟩ := Q5n hf
    have hx' := Qzs hv
    refine ⟨_, h, ⟨Qk hx', ?_, fun j z hj hz => ?_⟩⟩
    ·intro nm hsm B g w a hr hrd next Q hn
     have e1 := (rd0 hrd).mp_inv
     simp only at e1
     unfold Oper.wp
     rw [Qeh ho (.mk' Try.func41 rfl (by decide))]
     have hc := Qwz w (g.ρ k)
     rw [show (#[x] : Array Operand).map a.eval = #[.map (some (g.ρ k))] by simp [e1]]
     refine hc.mono ?_
     rintro e w' ⟨rfl, rfl⟩
     obtain ⟨n1, n2⟩ := hr.newObj (k := b) (Q5o h1) h2 (.cells #[.map (some (g.ρ k))] 64) (.cells [.nm k .m] (some 64)) (fun g' w' ht hb => .cells _ _ _ _ hb (by simp) (fun i x v hx hv => by
      cases i with
      | zero =>
       simp at hx hv; subst hx; subst hv
       refine .nm _ _ _ ?_
       show _ = _
       rw [ht.names k (by simpa using hne)]
      | succ i => simp at hx) (by simp))
     refine hn _ _ _ n1 n2 ?_
     refine .clo 73 _ _ rfl ?_
     intro i x v hx hv
     cases i with
     | zero =>
      simp [asOf, XV.a] at hx hv; subst hx; subst hv
      have := RA.ptr (g := { g with ρ := upd g.ρ b w.heap.size }) (w := w.alloc (.cells #[.map (some (g.ρ k))] 64)) b 0
      simpa [upd_same] using this
     | succ i => simp [asOf] at hx
    ·rw [Q10 (by simpa using hj)] at hz; exact hz
  ·cases h
 ·cases h
noncomputable def Qvq (N : Nat) : Ent Try.prog where
 id := 41
 run := Qp1
 ok := Qxp
def ks8 (e : MapEntry) : UInt8 := match e.key with
 | .int _ n => UInt8.ofNat n.toNat
 | _ => 0
def keys8 {vt : Ty} (es : Ents .u8 vt) : List UInt8 := srt8 (es.map fun e => e.2.1)
def Qks {R : Type} (o : Oper) (st : XSt) (vs : List XV) (K : Out → Option R) : Option R :=
 match o.op, vs with
 | .call c, [.clo 73 [.nm b (.p 0)]] => match c.args.toList, lk b st.objs with
  | [x], some (.cells [.nm k .m] ty) => match lk k st.objs with
   | some (.mapt L .u8 vt es clock) => cond (Nat.ble (fgT es).length 1000000000) (K ⟨.look [b, k], .d (.sl .u8 (keys8 (fgT es))), [(x, .clo 73 [.nm b (.p 0)])], st.objs, st.live, [], []⟩) none
   | some (.map .u8 vt es clock) => cond (Nat.ble es.length 1000000000) (K ⟨.look [b, k], .d (.sl .u8 (keys8 es)), [(x, .clo 73 [.nm b (.p 0)])], st.objs, st.live, [], []⟩) none
   | _ => none
  | _, _ => none
 | _, _ => none
theorem Qqm {vt : Ty} {es : Ents .u8 vt} {clock : Nat} {o : Oper} {x : Operand} {ts : Array TypeId} {X : Store} {b k : Nat} {ty : Option TypeId} (ho : o.op = .call { callee := .value (.func 40), args := #[x], argTypes := ts })
  (hb' : X.objs.lookup b = some (XOb.cells [.nm k .m] ty).o) (hk' : ∀ nm B g w, HR nm B g w X → ∃ ar, MapW .u8 vt g w (g.ρ k) es clock ar) (hlen : es.length ≤ 1000000000) :
  OpT Try.prog o [(x, .clo 73 [.ptr b 0])] X X [] (.d (.sl 1 ((keys8 es).map (Ty.ds .u8)))) := by
 intro nm hsm B g w a hr hrd next Q hn
 have e1 := rd0 hrd
 simp only at e1
 have e2 : a.eval x = .func (.func 73) #[] #[.pointer (some ⟨g.ρ b, 0, none⟩)] := by
  generalize a.eval x = v at e1
  cases e1 with
  | clo _ _ us hl hus =>
   have h1 : us.size = 1 := by simpa using hl.symm
   have h2 := hus 0 _ us[0] (by rfl) (by simp [h1])
   have h3 := h2.ptr_inv
   have : us = #[.pointer (some ⟨g.ρ b, 0, none⟩)] := by
    apply Array.ext
    ·simpa using h1
    ·intro i hi1 hi2
     have : i = 0 := by omega
     subst this
     simpa using h3
   rw [this]
 unfold Oper.wp
 rw [Qeh ho (.mk' Try.func40 rfl (by decide))]
 rw [show (#[x] : Array Operand).map a.eval = #[.func (.func 73) #[] #[.pointer (some ⟨g.ρ b, 0, none⟩)]] by simp [e2]]
 obtain ⟨ar, hm⟩ := hk' nm B g w hr
 have hbox : w.cell? ⟨g.ρ b, 0, none⟩ = some (.map (some (g.ρ k))) := by
  cases hr.objs b _ hb' with
  | cells _ _ arr T h1 h2 h3 h4 =>
   have hpos : 0 < arr.size := by
    simp [asOf] at h2
    omega
   have := (h3 0 (.mp k) arr[0] rfl (by simp [hpos])).mp_inv
   rw [cell?_cells h1]
   simp [hpos, this]
 have hkeys : ar.toList.map ks8 = es.map fun e => e.2.1 := by
  have := hm.keys
  have h5 : ar.toList.map ks8 = (ar.toList.map (·.key)).map fun v => match v with | .int _ n => UInt8.ofNat n.toNat | _ => 0 := by
   rw [List.map_map]; rfl
  rw [h5, this, List.map_map, List.map_map]
  apply List.map_congr_left
  intro e _
  show UInt8.ofNat ((e.2.1.toNat : Nat) : Int).toNat = e.2.1
  simp
 have hM : MapAt w (g.ρ b) (g.ρ k) ar clock ks8 := by
  have hget : ∀ e ∈ ar, ∃ (i : Nat), ∃ y, es[i]? = some y ∧ ar[i]? = some e := by
   intro e he
   obtain ⟨i, hi⟩ := List.mem_iff_getElem?.1 (Array.mem_toList_iff.2 he)
   have hi' : ar[i]? = some e := by simpa using hi
   have hlt : i < es.length := by rw [hm.len]; exact (Array.getElem?_eq_some_iff.1 hi').1
   exact ⟨i, es[i], by simp [hlt], hi'⟩
  refine ⟨hbox, hm.heap, ?_, ?_, ?_, ?_⟩
  ·intro e he
   obtain ⟨i, y, hy, hi⟩ := hget e he
   rw [(hm.at' i y e hy hi).1]
   exact hm.lt y (List.mem_of_getElem? hy)
  ·have : ar.toList.map MapEntry.born = es.map (·.1) := by
    apply List.ext_getElem?
    intro i
    rw [List.getElem?_map, List.getElem?_map, Array.getElem?_toList]
    by_cases hi : i < ar.size
    ·have hi' : i < es.length := by rw [hm.len]; exact hi
     rw [Array.getElem?_eq_getElem hi, List.getElem?_eq_getElem hi']
     have := (hm.at' i es[i] ar[i] (by simp [hi']) (by simp [hi])).1
     simp [this]
    ·rw [Array.getElem?_eq_none (by omega), List.getElem?_eq_none (by rw [hm.len]; omega)]; rfl
   rw [this]; exact hm.nodup
  ·intro e he
   obtain ⟨i, y, hy, hi⟩ := hget e he
   have := (hm.at' i y e hy hi).2.1
   show e.key = enc8 (ks8 e)
   rw [show ks8 e = y.2.1 by
    unfold ks8
    rw [this]
    show UInt8.ofNat ((y.2.1.toNat : Nat) : Int).toNat = y.2.1
    simp]
   rw [this]; rfl
  ·have := hm.len
   omega
 have h0 : HR [] (Base.of { g with β := fun _ => none } w X0) { g with β := fun _ => none } w X0 :=
  ⟨by simp, hr.sane, Nat.le_refl _, ⟨rfl, rfl, rfl, Nat.le_refl _⟩, .refl _ _, fun b _ _ => ⟨rfl, rfl⟩, by simp [X0], by simp [X0], by simp [X0], by simp [X0], by simp [X0], by simp, by simp, by simp, by simp, .off fun _ => rfl⟩
 refine ((callsIn_wide (n := 0)).1 (Qsv sortI seqI h0 hM)).mono ?_
 rintro e w' ⟨gc, v, rfl, h1, h2⟩
 obtain ⟨h3, h4⟩ := hr.pureCall (gc := gc) h1
 refine hn _ _ _ h3 h4 ?_
 rw [hkeys] at h2
 cases h2 with
 | d _ _ h => exact .d _ _ h
theorem Quc {R : Type} (o : Oper) (st : XSt) (args : Array Operand) (ts : Array TypeId) (vs : List XV) (K : Out → Option R) (r : R)
  (ho : o.op = .call { callee := .value (.func 40), args := args, argTypes := ts }) (hv : Qm st args.toList = some vs) (h : Qks o st vs K = some r) : ∃ out, K out = some r ∧ OpOk Try.prog o st out := by
 unfold Qks at h
 rw [ho] at h
 split at h
 ·rename_i c b hc
  cases hc
  split at h
  ·rename_i x k ty hx hb
   have ha : args = #[x] := Array.toList_inj.1 hx
   subst ha
   have hx' := Qzs hv
   split at h
   ·rename_i L vt es clock hk
    cases hle : Nat.ble (fgT es).length 1000000000 with
    | false => simp [hle] at h
    | true =>
     simp only [hle, cond_true] at h
     refine ⟨_, h, ⟨Qk hx', ⟨rfl, rfl, rfl, fun X hX => ?_⟩, fun _ _ _ h => h⟩⟩
     exact Qqm ho ((hX b (by simp)).trans (Q6f hb)) (fun nm B g w hr => by
      obtain ⟨ar, hm⟩ := Qpd (kt := .u8) rfl (hr.objs k _ ((hX k (by simp)).trans (Q6f hk)))
      exact ⟨ar, hm.m⟩) (Nat.le_of_ble_eq_true hle)
   ·rename_i vt es clock hk
    cases hle : Nat.ble es.length 1000000000 with
    | false => simp [hle] at h
    | true =>
     simp only [hle, cond_true] at h
     refine ⟨_, h, ⟨Qk hx', ⟨rfl, rfl, rfl, fun X hX => ?_⟩, fun _ _ _ h => h⟩⟩
     exact Qqm ho ((hX b (by simp)).trans (Q6f hb)) (fun nm B g w hr => Qan (kt := .u8) rfl (hr.objs k _ ((hX k (by simp)).trans (Q6f hk)))) (Nat.le_of_ble_eq_true hle)
   ·cases h
  ·cases h
 ·cases h
noncomputable def Qgd (N : Nat) : Ent Try.prog where
 id := 40
 run := Qks
 ok := Quc
end Go.Proofs.Xg
set_option linter.unusedVariables false
set_option maxRecDepth 100000
namespace Go.Proofs.Xg
open Go Go.Xl Go.Ab Go.Proofs Go.Proofs.Xg Go.Proofs.Xu
@[reducible] def Qe : Ty := (.pair tDot .str)
noncomputable def Q7m (N : Nat) : Ent Try.prog := Qvq N
noncomputable def Q8o (N : Nat) : Fun [(.sl (.int .i64))] (Option (ResT [(.int .i64)])) := fun (x : List Int) => iter (fun (rec : (Int × Unit) × Unit × Unit × Unit → Option Int) (z : (Int × Unit) × Unit × Unit ×
 Unit) => bif decide (z.1.1 < (↑x.length : Int)) then (at? x z.1.1).bind fun (e : Int) => bif e != 0 then some e else rec ((IntKind.i64.wrap (z.1.1 + 1), ()), (), (), ()) else some 0) N ((0, ()), (), (), ())
theorem Qtc (N : Nat) : runF Try.prog [] [] N Try.f101 (.seq .lf (.seq .lf (.seq (.seq .lf (.blk (.loop ⟨[(8, .d (.int .i64))], [], [3, 6, 7], [], [], []⟩ .lf))) .lf))) [(.sl (.int .i64))] [(.int .i64)] = Q8o N := by kernel_rfl
noncomputable def Qth (N : Nat) : Ent Try.prog := mkFn 101 Try.f101 _ [(.sl (.int .i64))] [(.int .i64)] (Q8o N) mixed Try.func101 (.mk' Try.func101 rfl (by decide)) rfl (Qtc N)
noncomputable def Q5k (N : Nat) : Fun [Qe, Qe] (Option (ResT [(.int .i64)])) := fun (x x_1 : (Int × Int) × List UInt8) => Option.bind (Q39 N x.1.2 x_1.1.2) fun (y : Int) =>
 Option.bind (Q32 N x.1.1 x_1.1.1) fun (y_1 : Int) => Option.bind (Q8o N [y, y_1]) fun (y : Int) => some y
theorem Qpa (N : Nat) : runF Try.prog [Qth N, Qhk N, Qhl N] [] N Try.f100 .lf [Qe, Qe] [(.int .i64)] = Q5k N := by kernel_rfl
noncomputable def Qg6 (N : Nat) : Ent Try.prog := mkFn 100 Try.f100 _ [Qe, Qe] [(.int .i64)] (Q5k N) mixed Try.func100 (.mk' Try.func100 rfl (by decide)) rfl (Qpa N)
@[reducible] def Q1z : CSp := ⟨[.d (.sl Qe), .clo 100 []], [], [], ⟨[(4, .p 1004 0)], [(1004, [.d Qe], some 67)], [], [], [], []⟩⟩
noncomputable def Q1b (N : Nat) : CSp.Fun Q1z (Option Q1z.out.T) := fun (y : List ((Int × Int) × List UInt8)) => Ql (fun (z : Unit × Unit
 × Unit × Unit) => y[0]?.bind fun (e : (Int × Int) × List UInt8) => iter (fun (rec : (Int × Unit) × ((((Int × Int) × List UInt8) × Unit) × Unit) × Unit × Unit → Option ((Unit × Unit) × ((((Int × Int) × List UInt8) ×
 Unit) × Unit) × Unit × Unit)) (z : (Int × Unit) × ((((Int × Int) × List UInt8) × Unit) × Unit) × Unit × Unit) => bif decide (z.1.1 < (↑y.length : Int)) then (at? y z.1.1).bind fun (e : (Int × Int) × List UInt8)
 => Option.bind (Q5k N e z.2.1.1.1) fun (y_1 : Int) => bif decide (0 < y_1) then (at? y z.1.1).bind fun (e : (Int × Int) × List UInt8) => rec ((IntKind.i64.wrap (z.1.1 + 1), ()), ((e, ()), ()),
 (), ()) else rec ((IntKind.i64.wrap (z.1.1 + 1), ()), ((z.2.1.1.1, ()), ()), (), ()) else some (((), ()), ((z.2.1.1.1, ()), ()), (), ())) N ((1, ()), ((e, ()), ()), (), ())) fun (k : Unit × Unit ×
 Unit × Unit → Option ((Unit × Unit) × ((((Int × Int) × List UInt8) × Unit) × Unit) × Unit × Unit)) => bif decide ((↑y.length : Int) < 1) then none else k ((), (), (), ())
theorem Qbk (N : Nat) : runC Try.prog [Qg6 N] [] N Try.f99 (.seq .lf (.join ⟨[], [], [0, 1, 4], [1004], [], []⟩ .lf (.seq .lf (.seq (.seq .lf (.blk (.loop ⟨[(6, .d (.int .i64))], [(1005, [.d Qe], some 67)], [0, 1, 4, 5], [1004], [], []⟩ .lf))) .lf)))) Q1z = Q1b N := by kernel_rfl
noncomputable def Qbj (N : Nat) : Ent Try.prog := mkC 99 Try.f99 _ Q1z (Q1b N) mixed Try.func99 (.mk' Try.func99 rfl (by decide)) rfl rfl rfl (Qbk N)
noncomputable def Q8n (N : Nat) : Fun [(.sl Qe)] (Option (ResT [Qe, .bool])) := fun (x : List ((Int × Int) × List UInt8)) => bif (↑x.length : Int) == 0 then some (((0, 0), []), false) else Option.bind
 (Q1b N x) fun (y : (Unit × Unit) × ((((Int × Int) × List UInt8) × Unit) × Unit) × Unit × Unit) => some (y.2.1.1.1, true)
theorem Qsm (N : Nat) : runF Try.prog [Qg6 N, Qbj N] [] N Try.f74 .lf [(.sl Qe)] [Qe, .bool] = Q8n N := by kernel_rfl
noncomputable def Qtv (N : Nat) : Ent Try.prog := mkFn 74 Try.f74 _ [(.sl Qe)] [Qe, .bool] (Q8n N) mixed Try.func74 (.mk' Try.func74 rfl (by decide)) rfl (Qsm N)
@[reducible] def Qb3 : CSp := ⟨[.d .str, .p 2 0], [(2, [.d Qe], some 67)], [], ⟨[(3, .d .bool)], [], [], [2], [], []⟩⟩
noncomputable def Q47 (N : Nat) : CSp.Fun Qb3 (Option Qb3.out.T) := fun (y : List UInt8) (y_1 : (Int × Int) × List UInt8) => some ((y == y_1.2, ()), (), (), ())
theorem Qs4 (N : Nat) : runC Try.prog [] [] N Try.f77 .lf Qb3 = Q47 N := by kernel_rfl
noncomputable def Qf2 (N : Nat) : Ent Try.prog := mkC 77 Try.f77 _ Qb3 (Q47 N) mixed Try.func77 (.mk' Try.func77 rfl (by decide)) rfl rfl rfl (Qs4 N)
@[reducible] def Q1i : CSp := ⟨[.os 1 .str, .clo 77 [(2, 0)]], [(2, [.d Qe], some 67)], [(1, .arr .str)], ⟨[(4, .d (.int .i64))], [], [], [2, 1], [], []⟩⟩
noncomputable def Q12 (N : Nat) : CSp.Fun Q1i (Option Q1i.out.T) := fun (n : Nat) (y : (Int × Int) × List UInt8) (l : List (List
 UInt8)) => iter (fun (rec : (Int × Unit) × Unit × Unit × Unit → Option ((Int × Unit) × Unit × Unit × Unit)) (z : (Int × Unit) × Unit × Unit × Unit) => bif decide (z.1.1 < (↑n : Int)) then bif decide (0 ≤ z.1.1)
 && decide (z.1.1 < (↑n : Int)) then l[0 + z.1.1.toNat]?.bind fun (e : List UInt8) => Option.bind (Q47 N e y) fun (y : (Bool × Unit) × Unit × Unit × Unit) => bif y.1.1 then some ((z.1.1, ()), (),
 (), ()) else rec ((IntKind.i64.wrap (z.1.1 + 1), ()), (), (), ()) else none else some ((-1, ()), (), (), ())) N ((0, ()), (), (), ())
theorem Q9z (N : Nat) : runC Try.prog [Qf2 N] [] N Try.f102 (.seq .lf (.seq (.seq .lf (.blk (.loop ⟨[(8, .d (.int .i64))], [], [0, 1, 7], [1, 2], [], []⟩ .lf))) .lf)) Q1i = Q12 N := by kernel_rfl
noncomputable def Q9v (N : Nat) : Ent Try.prog := mkC 102 Try.f102 _ Q1i (Q12 N) mixed Try.func102 (.mk' Try.func102 rfl (by decide)) rfl rfl rfl (Q9z N)
@[reducible] def Q1e : CSp := ⟨[.os 1 .str, .clo 77 [(2, 0)]], [(2, [.d Qe], some 67)], [(1, .arr .str)], ⟨[(4, .os 1 .str)], [], [], [2], [], [(1, .arr .str)]⟩⟩
noncomputable def Qy (N : Nat) : CSp.Fun Q1e (Option Q1e.out.T) := fun (n : Nat) (y : (Int × Int) × List UInt8) (l : List
 (List UInt8)) => Option.bind (Q12 N n y l) fun (y_1 : (Int × Unit) × Unit × Unit × Unit) => bif y_1.1.1 == -1 then some ((n, ()), (), (), l, ()) else iter (fun (rec : (Int × Int × Unit)
 × Unit × Unit × List (List UInt8) × Unit → Option ((Nat × Unit) × Unit × Unit × List (List UInt8) × Unit)) (z : (Int × Int × Unit) × Unit × Unit × List (List UInt8) × Unit) => bif decide (z.1.2.1 < (↑n : Int))
 then bif decide (0 ≤ z.1.2.1) && decide (z.1.2.1 < (↑n : Int)) then z.2.2.2.1[0 + z.1.2.1.toNat]?.bind fun (e : List UInt8) => Option.bind (Q47 N e y) fun (y : (Bool × Unit) × Unit ×
 Unit × Unit) => bif !y.1.1 then bif decide (0 ≤ z.1.1) && decide (z.1.1 < (↑n : Int)) then z.2.2.2.1[0 + z.1.1.toNat]?.bind fun (e_1 : List UInt8) => rec ((IntKind.i64.wrap (z.1.1 + 1),
 IntKind.i64.wrap (z.1.2.1 + 1), ()), (), (), z.2.2.2.1.set (0 + z.1.1.toNat) e, ()) else none else rec ((z.1.1, IntKind.i64.wrap (z.1.2.1 + 1), ()), (), (), z.2.2.2.1, ()) else none
 else bif cutOk z.1.1 (↑n : Int) n then bif cutOk 0 z.1.1 n then some ((z.1.1.toNat - 0, ()), (), (), List.take (0 + z.1.1.toNat) z.2.2.2.1, ()) else none else none) N ((y_1.1.1,
 IntKind.i64.wrap (y_1.1.1 + 1), ()), (), (), l, ())
theorem Q9q (N : Nat) : runC Try.prog [Q9v N, Qf2 N] [] N Try.f75 (.seq .lf (.seq .lf (.seq .lf (.seq (.seq .lf (.blk (.loop ⟨[(5, .d (.int .i64)), (6, .d (.int .i64))], [], [0, 1], [2], [], [(1, .arr .str)]⟩ .lf))) .lf)))) Q1e = Qy N := by kernel_rfl
noncomputable def Q9s (N : Nat) : Ent Try.prog := mkC 75 Try.f75 _ Q1e (Qy N) mixed Try.func75 (.mk' Try.func75 rfl (by decide)) rfl rfl rfl (Q9q N)
noncomputable def Q2l (N : Nat) : FunA [] (Option (ResT (rkTys .str [.s]))) := some []
theorem Qa9 (N : Nat) : runO0 Try.prog [] [] N Try.f104 (.seq .lf (.seq .lf (.seq (.seq .lf (.blk (.loop ⟨[(3, .d (.int .i64))], [], [0], [], [], []⟩ (.seq .lf (.seq (.blk (.seq .lf (.cond (.seq .lf (.seq (.seq .lf (.blk (.loop ⟨[(3, .d (.int .i64)), (5, .d (.int .i64))], [], [0, 4], [], [], []⟩ .lf))) .lf)) .lf))) .lf))))) .lf))) .str [] [.s] = Q2l N := by kernel_rfl
noncomputable def Q15 (N : Nat) : List (.str : Ty).T → Nat → FunA [] (Option (List (.str : Ty).T × ResO [.s])) := fun (l : List (List UInt8)) (n : Nat) => bif decide ((↑n : Int) < 2) then some
 (l, n) else iter (fun (rec : (Int × Unit) × Unit × Unit × List (List UInt8) × Unit → Option (List (List UInt8) × Nat)) (z : (Int × Unit) × Unit × Unit × List (List UInt8) × Unit) => bif decide (z.1.1 < (↑n : Int))
 then bif decide (0 ≤ z.1.1) && decide (z.1.1 < (↑n : Int)) then z.2.2.2.1[0 + z.1.1.toNat]?.bind fun (e : List UInt8) => bif decide (0 ≤ IntKind.i64.wrap (z.1.1 - 1)) && decide (IntKind.i64.wrap
 (z.1.1 - 1) < (↑n : Int)) then z.2.2.2.1[0 + (IntKind.i64.wrap (z.1.1 - 1)).toNat]?.bind fun (e_1 : List UInt8) => bif e == e_1 then bif cutOk z.1.1 (↑n : Int) n then iter (fun (rec : (Int × Int ×
 Unit) × Unit × Unit × List (List UInt8) × Unit → Option (List (List UInt8) × Nat)) (z_1 : (Int × Int × Unit) × Unit × Unit × List (List UInt8) × Unit) => bif decide (z_1.1.2.1 < (↑((↑n : Int).toNat -
 z.1.1.toNat) : Int)) then bif decide (0 ≤ z_1.1.2.1) && decide (z_1.1.2.1 < (↑((↑n : Int).toNat - z.1.1.toNat) : Int)) then z_1.2.2.2.1[0 + z.1.1.toNat + z_1.1.2.1.toNat]?.bind fun
 (e : List UInt8) => bif decide (0 ≤ IntKind.i64.wrap (z_1.1.2.1 - 1)) && decide (IntKind.i64.wrap (z_1.1.2.1 - 1) < (↑((↑n : Int).toNat - z.1.1.toNat) : Int)) then z_1.2.2.2.1[0 + z.1.1.toNat
 + (IntKind.i64.wrap (z_1.1.2.1 - 1)).toNat]?.bind fun (e_2 : List UInt8) => bif e != e_2 then bif decide (0 ≤ z_1.1.2.1) && decide (z_1.1.2.1 < (↑((↑n : Int).toNat - z.1.1.toNat) : Int)) then
 z_1.2.2.2.1[0 + z.1.1.toNat + z_1.1.2.1.toNat]?.bind fun (e : List UInt8) => bif decide (0 ≤ z_1.1.1) && decide (z_1.1.1 < (↑n : Int)) then z_1.2.2.2.1[0 + z_1.1.1.toNat]?.bind fun
 (e_3 : List UInt8) => rec ((IntKind.i64.wrap (z_1.1.1 + 1), IntKind.i64.wrap (z_1.1.2.1 + 1), ()), (), (), z_1.2.2.2.1.set (0 + z_1.1.1.toNat) e, ()) else none else none else rec ((z_1.1.1,
 IntKind.i64.wrap (z_1.1.2.1 + 1), ()), (), (), z_1.2.2.2.1, ()) else none else none else bif cutOk z_1.1.1 (↑n : Int) n then bif cutOk 0 z_1.1.1 n then some (List.take (0 + z_1.1.1.toNat)
 z_1.2.2.2.1, z_1.1.1.toNat - 0) else none else none) N ((z.1.1, 1, ()), (), (), z.2.2.2.1, ()) else none else rec ((IntKind.i64.wrap (z.1.1 + 1), ()), (), (), z.2.2.2.1, ()) else none
 else none else some (z.2.2.2.1, n)) N ((1, ()), (), (), l, ())
theorem Qap (N : Nat) : runO Try.prog [] [] N Try.f104 (.seq .lf (.seq .lf (.seq (.seq .lf (.blk (.loop ⟨[(3, .d (.int .i64))], [], [0], [], [], [(1, .arr .str)]⟩ (.seq .lf (.seq (.blk (.seq .lf (.cond (.seq .lf (.seq (.seq .lf (.blk (.loop ⟨[(3, .d (.int .i64)), (5, .d (.int .i64))], [], [0, 4], [], [], [(1, .arr .str)]⟩ .lf))) .lf)) .lf))) .lf))))) .lf))) .str [] [.s] = Q15 N := by kernel_rfl
noncomputable def Qb2 (N : Nat) : Ent Try.prog := mkO2 104 Try.f104 _ _ .str [] [.s] (Q15 N) (Q2l N) mixed Try.func104 (.mk' Try.func104 rfl (by decide)) rfl (Qap N) (Qa9 N)
noncomputable def Qa2 (N : Nat) : FunA [.d (.sl Qe)] (Option (Option (List (.str : Ty).T × Nat))) := fun (x : List ((Int × Int) × List UInt8)) => iter (fun (rec : (Int × Unit) × Unit × (Option (List (List
 UInt8) × Nat) × Unit) × Unit → Option (Option (List (List UInt8) × Nat))) (z : (Int × Unit) × Unit × (Option (List (List UInt8) × Nat) × Unit) × Unit) => Q3j z.2.2.1.1 (bif decide (z.1.1 < (↑x.length :
 Int)) then (at? x z.1.1).bind fun (e : (Int × Int) × List UInt8) => rec ((IntKind.i64.wrap (z.1.1 + 1), ()), (), (some ([e.2], [e.2].length), ()), ()) else Option.bind (Q3f N) fun
 (y : Unit) => Option.bind (Q2l N) fun (y : List (List UInt8)) => Q6s y (some none) fun (x : List UInt8) (x_1 : List (List UInt8)) => none) fun (y : List (List UInt8) × Nat) => bif
 decide (z.1.1 < (↑x.length : Int)) then (at? x z.1.1).bind fun (e : (Int × Int) × List UInt8) => bif y.1.length.beq y.2 then bif fitsB (y.2 + [e.2].length) 16 then rec ((IntKind.i64.wrap (z.1.1 + 1),
 ()), (), (some (y.1 ++ [e.2], y.2 + [e.2].length), ()), ()) else none else none else Option.bind (F_slices_Sort_sstring_string N y.1 y.2) fun (y_1 : List (List UInt8) × Unit) => Option.bind
 (Q15 N y_1.1 y.2) fun (y : List (List UInt8) × Nat) => some (some y)) N ((0, ()), (), (none, ()), ())
theorem Qv0 (N : Nat) : Go.Xl.runN Try.prog [Qcc N, Qb2 N] [16] N Try.f76 (.seq .lf (.seq .lf (.seq (.seq .lf (.blk (.loop ⟨[(8, .d (.int .i64))], [], [6, 7], [], [(3, 400003, .str)], []⟩ .lf))) .lf))) .str [.d (.sl Qe)] = Qa2 N := by kernel_rfl
noncomputable def Quv (N : Nat) : Ent Try.prog := Go.Xl.mkN 76 Try.f76 _ .str [.d (.sl Qe)] (Qa2 N) mixed Try.func76 (.mk' Try.func76 rfl (by decide)) rfl (Qv0 N)
noncomputable def Qb6 (N : Nat) : Fun [.u8, (.sl Qe)] (Option (ResT [tLine])) := fun (x : UInt8) (x_1 : List ((Int × Int) × List UInt8)) => Option.bind (Q8n N x_1) fun (y : ((Int × Int) × List UInt8)
 × Bool) => bif !y.2 then some (0, [], []) else Option.bind (Qa2 N x_1) fun (y_1 : Option (List (List UInt8) × Nat)) => Q3j y_1 none fun (z : List (List UInt8) × Nat) => Option.bind
 (Qy N z.2 y.1 z.1) fun (y_2 : (Nat × Unit) × Unit × Unit × List (List UInt8) × Unit) => bif (0 + y_2.1.1).ble y_2.2.2.2.1.length then some (x, y.1.2, List.take
 y_2.1.1 (List.drop 0 y_2.2.2.2.1)) else none
theorem Qxj (N : Nat) : runF Try.prog [Qtv N, Q9s N, Quv N, Qf2 N] [] N Try.f42 (.seq .lf (.seq .lf (.seq .lf (.fz [7] .lf .lf)))) [.u8, (.sl Qe)] [tLine] = Qb6 N := by kernel_rfl
noncomputable def Qxz (N : Nat) : Ent Try.prog := mkFn 42 Try.f42 _ [.u8, (.sl Qe)] [tLine] (Qb6 N) mixed Try.func42 (.mk' Try.func42 rfl (by decide)) rfl (Qxj N)
noncomputable def Q6w (N : Nat) : Fun [(.sl tEvent), (.int .u64)] (Option (ResT [tCard, .bool])) := fun (x : List ((Int × Int) × UInt8 × Int × UInt8 × List UInt8 × List (Int × Int))) (x_1 : Int) => iter (fun (rec
 : (Int × Unit) × Unit × Unit × (List (Nat × UInt8 × Bool × List ((Int × Int) × List UInt8)) × Nat) × Unit → Option ((Int × List (UInt8 × List UInt8 × List (List UInt8))) × Bool)) (z : (Int × Unit) × Unit × Unit × (List
 (Nat × UInt8 × Bool × List ((Int × Int) × List UInt8)) × Nat) × Unit) => bif decide (z.1.1 < (↑x.length : Int)) then (at? x z.1.1).bind fun (e : (Int × Int) × UInt8 × Int × UInt8 × List UInt8 × List (Int × Int))
 => bif e.2.1 == 1 then bif e.2.2.1 == x_1 then bif Qyd Ty.u8 Qe e.2.2.2.1 z.2.2.2.1.1 then bif fitsB ((tvalX Ty.u8 Qe e.2.2.2.1 z.2.2.2.1.1).length + [(e.1,
 e.2.2.2.2.1)].length) 32 then rec ((IntKind.i64.wrap (z.1.1 + 1), ()), (), (), (tputX Ty.u8 Qe e.2.2.2.1 (tvalX Ty.u8 Qe e.2.2.2.1 z.2.2.2.1.1 ++ [(e.1,
 e.2.2.2.2.1)]) true z.2.2.2.1.2 (toffX Ty.u8 Qe e.2.2.2.1 z.2.2.2.1.1), mclkX Ty.u8 Qe.sl e.2.2.2.1 (fgTX Ty.u8 Qe (toffX Ty.u8 Qe e.2.2.2.1
 z.2.2.2.1.1)) z.2.2.2.1.2), ()) else none else none else rec ((IntKind.i64.wrap (z.1.1 + 1), ()), (), (), z.2.2.2.1, ()) else rec ((IntKind.i64.wrap (z.1.1 + 1), ()), (), (),
 z.2.2.2.1, ()) else bif (↑(List.length (fgTX Ty.u8 Qe z.2.2.2.1.1)) : Int) == 0 then some ((0, []), false) else bif (List.length (fgTX Ty.u8 Qe z.2.2.2.1.1)).ble 1000000000 then iter
 (fun (rec : (Int × Unit) × ((Int × List (UInt8 × List UInt8 × List (List UInt8)) × Unit) × Unit) × Unit × Unit → Option ((Int × List (UInt8 × List UInt8 × List (List UInt8))) × Bool)) (z_1 : (Int × Unit) × ((Int × List
 (UInt8 × List UInt8 × List (List UInt8)) × Unit) × Unit) × Unit × Unit) => bif decide (z_1.1.1 < (↑(keys8 (fgTX Ty.u8 Qe z.2.2.2.1.1)).length : Int)) then (at? (keys8 (fgTX Ty.u8 Qe
 z.2.2.2.1.1)) z_1.1.1).bind fun (e : UInt8) => Option.bind (Qb6 N e ((mgetX Ty.u8 Qe.sl e (fgTX Ty.u8 Qe z.2.2.2.1.1)).getD [])) fun (y : UInt8 × List UInt8 × List (List UInt8)) =>
 bif fitsB (z_1.2.1.1.2.1.length + [y].length) 48 then rec ((IntKind.i64.wrap (z_1.1.1 + 1), ()), ((z_1.2.1.1.1, z_1.2.1.1.2.1 ++ [y], ()), ()), (), ()) else none else some
 ((z_1.2.1.1.1, z_1.2.1.1.2.1), true)) N ((0, ()), ((x_1, [], ()), ()), (), ()) else none) N ((0, ()), (), (), ([], 0), ())
theorem Qvb (N : Nat) : runF Try.prog [Qgd N, Q7m N, Qxz N] [12] N Try.f10 (.seq .lf (.seq .lf (.fg (.seq .lf (.blk (.loop ⟨[(15, .d (.int .i64))], [], [1, 4, 6, 13, 14], [1004], [], [(1012, .mapt 501012 .u8 Qe)]⟩ .lf))) (.seq .lf (.seq .lf (.seq (.seq .lf (.blk (.loop ⟨[(53, .d (.int .i64))], [(1009, [.d (.int .u64), .tip 300901 tLine none], some 28)], [4, 6, 9, 51, 52], [1004, 1012], [], []⟩ .lf))) .lf)))))) [(.sl tEvent), (.int .u64)] [tCard, .bool] = Q6w N := by kernel_rfl
noncomputable def Qlz (N : Nat) : Ent Try.prog := mkFn 10 Try.f10 _ [(.sl tEvent), (.int .u64)] [tCard, .bool] (Q6w N) mixed Try.func10 (.mk' Try.func10 rfl (by decide)) rfl (Qvb N)
noncomputable def Q38 (N : Nat) : Fun [(.sl .str), (.sl .str)] (Option (ResT [.bool])) := fun (x x_1 : List (List UInt8)) => bif (↑x.length : Int) != (↑x_1.length : Int) then some false else iter (fun
 (rec : (Int × Unit) × Unit × Unit × Unit → Option Bool) (z : (Int × Unit) × Unit × Unit × Unit) => bif decide (z.1.1 < (↑x.length : Int)) then (at? x z.1.1).bind fun (e : List UInt8) => (at? x_1 z.1.1).bind
 fun (e_1 : List UInt8) => bif e != e_1 then some false else rec ((IntKind.i64.wrap (z.1.1 + 1), ()), (), (), ()) else some true) N ((0, ()), (), (), ())
theorem Qhz (N : Nat) : runF Try.prog [] [] N Try.f80 (.seq .lf (.seq .lf (.seq (.seq .lf (.blk (.loop ⟨[(5, .d (.int .i64))], [], [0, 1], [], [], []⟩ .lf))) .lf))) [(.sl .str), (.sl .str)] [.bool] = Q38 N := by kernel_rfl
noncomputable def Qha (N : Nat) : Ent Try.prog := mkFn 80 Try.f80 _ [(.sl .str), (.sl .str)] [.bool] (Q38 N) mixed Try.func80 (.mk' Try.func80 rfl (by decide)) rfl (Qhz N)
noncomputable def Q2x (N : Nat) : Fun [(.sl tLine), (.sl tLine)] (Option (ResT [.bool])) := fun (x x_1 : List (UInt8 × List UInt8 × List (List UInt8))) => bif (↑x.length : Int) != (↑x_1.length : Int)
 then some false else iter (fun (rec : (Int × Unit) × Unit × Unit × Unit → Option Bool) (z : (Int × Unit) × Unit × Unit × Unit) => bif decide (z.1.1 < (↑x.length : Int)) then (at? x z.1.1).bind fun (e : UInt8 ×
 List UInt8 × List (List UInt8)) => (at? x_1 z.1.1).bind fun (e_1 : UInt8 × List UInt8 × List (List UInt8)) => bif e.1 != e_1.1 then some false else (at? x z.1.1).bind fun (e : UInt8 × List UInt8 × List (List
 UInt8)) => (at? x_1 z.1.1).bind fun (e_2 : UInt8 × List UInt8 × List (List UInt8)) => bif e.2.1 != e_2.2.1 then some false else (at? x z.1.1).bind fun (e : UInt8 × List UInt8 × List (List UInt8)) => (at?
 x_1 z.1.1).bind fun (e_3 : UInt8 × List UInt8 × List (List UInt8)) => Option.bind (Q38 N e.2.2 e_3.2.2) fun (y : Bool) => bif !y then some false else rec ((IntKind.i64.wrap (z.1.1 + 1),
 ()), (), (), ()) else some true) N ((0, ()), (), (), ())
theorem Qhf (N : Nat) : runF Try.prog [Qha N] [] N Try.f45 (.seq .lf (.seq .lf (.seq (.seq .lf (.blk (.loop ⟨[(5, .d (.int .i64))], [], [0, 1], [], [], []⟩ .lf))) .lf))) [(.sl tLine), (.sl tLine)] [.bool] = Q2x N := by kernel_rfl
noncomputable def Qhn (N : Nat) : Ent Try.prog := mkFn 45 Try.f45 _ [(.sl tLine), (.sl tLine)] [.bool] (Q2x N) mixed Try.func45 (.mk' Try.func45 rfl (by decide)) rfl (Qhf N)
noncomputable def Q2a (N : Nat) : Fun [tCard, tCard] (Option (ResT [.bool])) := fun (x x_1 : Int × List (UInt8 × List UInt8 × List (List UInt8))) => bif x.1 == x_1.1 then Option.bind
 (Q2x N x.2 x_1.2) fun (y : Bool) => some y else some false
theorem Qin (N : Nat) : runF Try.prog [Qhn N] [] N Try.f12 .lf [tCard, tCard] [.bool] = Q2a N := by kernel_rfl
noncomputable def Qbs (N : Nat) : Ent Try.prog := mkFn 12 Try.f12 _ [tCard, tCard] [.bool] (Q2a N) mixed Try.func12 (.mk' Try.func12 rfl (by decide)) rfl (Qin N)
noncomputable def Q43 (N : Nat) : Fun [(.sl tCard), (.sl tCard)] (Option (ResT [.bool])) := fun (x x_1 : List (Int × List (UInt8 × List UInt8 × List (List UInt8)))) => bif (↑x.length : Int) != (↑x_1.length
 : Int) then some false else iter (fun (rec : (Int × Unit) × Unit × Unit × Unit → Option Bool) (z : (Int × Unit) × Unit × Unit × Unit) => bif decide (z.1.1 < (↑x.length : Int)) then (at? x z.1.1).bind fun (e :
 Int × List (UInt8 × List UInt8 × List (List UInt8))) => (at? x_1 z.1.1).bind fun (e_1 : Int × List (UInt8 × List UInt8 × List (List UInt8))) => Option.bind (Q2a N e e_1) fun (y : Bool) => bif !y then
 some false else rec ((IntKind.i64.wrap (z.1.1 + 1), ()), (), (), ()) else some true) N ((0, ()), (), (), ())
theorem Qkf (N : Nat) : runF Try.prog [Qbs N] [] N Try.f13 (.seq .lf (.seq .lf (.seq (.seq .lf (.blk (.loop ⟨[(5, .d (.int .i64))], [], [0, 1], [], [], []⟩ .lf))) .lf))) [(.sl tCard), (.sl tCard)] [.bool] = Q43 N := by kernel_rfl
noncomputable def Qj7 (N : Nat) : Ent Try.prog := mkFn 13 Try.f13 _ [(.sl tCard), (.sl tCard)] [.bool] (Q43 N) mixed Try.func13 (.mk' Try.func13 rfl (by decide)) rfl (Qkf N)
noncomputable def Q1o (N : Nat) : FunA [] (Option (ResT (rkTys (.int .u64) [.s]))) := some []
theorem Qa8 (N : Nat) : runO0 Try.prog [] [] N Try.f47 (.seq .lf (.seq .lf (.seq (.seq .lf (.blk (.loop ⟨[(3, .d (.int .i64))], [], [0], [], [], []⟩ (.seq .lf (.seq (.blk (.seq .lf (.cond (.seq .lf (.seq (.seq .lf (.blk (.loop ⟨[(3, .d (.int .i64)), (5, .d (.int .i64))], [], [0, 4], [], [], []⟩ .lf))) .lf)) .lf))) .lf))))) .lf))) (.int .u64) [] [.s] = Q1o N := by kernel_rfl
noncomputable def Q14 (N : Nat) : List ((.int .u64) : Ty).T → Nat → FunA [] (Option (List ((.int .u64) : Ty).T × ResO [.s])) := fun (l : List Int) (n : Nat) => bif decide ((↑n : Int) < 2) then
 some (l, n) else iter (fun (rec : (Int × Unit) × Unit × Unit × List Int × Unit → Option (List Int × Nat)) (z : (Int × Unit) × Unit × Unit × List Int × Unit) => bif decide (z.1.1 < (↑n : Int)) then bif decide (0 ≤
 z.1.1) && decide (z.1.1 < (↑n : Int)) then z.2.2.2.1[0 + z.1.1.toNat]?.bind fun (e : Int) => bif decide (0 ≤ IntKind.i64.wrap (z.1.1 - 1)) && decide (IntKind.i64.wrap (z.1.1 - 1) < (↑n :
 Int)) then z.2.2.2.1[0 + (IntKind.i64.wrap (z.1.1 - 1)).toNat]?.bind fun (e_1 : Int) => bif e == e_1 then bif cutOk z.1.1 (↑n : Int) n then iter (fun (rec : (Int × Int × Unit) × Unit × Unit × List Int ×
 Unit → Option (List Int × Nat)) (z_1 : (Int × Int × Unit) × Unit × Unit × List Int × Unit) => bif decide (z_1.1.2.1 < (↑((↑n : Int).toNat - z.1.1.toNat) : Int)) then bif decide (0 ≤ z_1.1.2.1) && decide
 (z_1.1.2.1 < (↑((↑n : Int).toNat - z.1.1.toNat) : Int)) then z_1.2.2.2.1[0 + z.1.1.toNat + z_1.1.2.1.toNat]?.bind fun (e : Int) => bif decide (0 ≤ IntKind.i64.wrap (z_1.1.2.1 - 1)) &&
 decide (IntKind.i64.wrap (z_1.1.2.1 - 1) < (↑((↑n : Int).toNat - z.1.1.toNat) : Int)) then z_1.2.2.2.1[0 + z.1.1.toNat + (IntKind.i64.wrap (z_1.1.2.1 - 1)).toNat]?.bind fun (e_2 : Int) => bif
 e != e_2 then bif decide (0 ≤ z_1.1.2.1) && decide (z_1.1.2.1 < (↑((↑n : Int).toNat - z.1.1.toNat) : Int)) then z_1.2.2.2.1[0 + z.1.1.toNat + z_1.1.2.1.toNat]?.bind fun (e : Int) => bif
 decide (0 ≤ z_1.1.1) && decide (z_1.1.1 < (↑n : Int)) then z_1.2.2.2.1[0 + z_1.1.1.toNat]?.bind fun (e_3 : Int) => rec ((IntKind.i64.wrap (z_1.1.1 + 1), IntKind.i64.wrap (z_1.1.2.1 + 1),
 ()), (), (), z_1.2.2.2.1.set (0 + z_1.1.1.toNat) e, ()) else none else none else rec ((z_1.1.1, IntKind.i64.wrap (z_1.1.2.1 + 1), ()), (), (), z_1.2.2.2.1, ()) else none else none else bif
 cutOk z_1.1.1 (↑n : Int) n then bif cutOk 0 z_1.1.1 n then some (List.take (0 + z_1.1.1.toNat) z_1.2.2.2.1, z_1.1.1.toNat - 0) else none else none) N ((z.1.1, 1, ()), (), (),
 z.2.2.2.1, ()) else none else rec ((IntKind.i64.wrap (z.1.1 + 1), ()), (), (), z.2.2.2.1, ()) else none else none else some (z.2.2.2.1, n)) N ((1, ()), (), (), l, ())
theorem Qao (N : Nat) : runO Try.prog [] [] N Try.f47 (.seq .lf (.seq .lf (.seq (.seq .lf (.blk (.loop ⟨[(3, .d (.int .i64))], [], [0], [], [], [(1, .arr (.int .u64))]⟩ (.seq .lf (.seq (.blk (.seq .lf (.cond (.seq .lf (.seq (.seq .lf (.blk (.loop ⟨[(3, .d (.int .i64)), (5, .d (.int .i64))], [], [0, 4], [], [], [(1, .arr (.int .u64))]⟩ .lf))) .lf)) .lf))) .lf))))) .lf))) (.int .u64) [] [.s] = Q14 N := by kernel_rfl
noncomputable def Qav (N : Nat) : Ent Try.prog := mkO2 47 Try.f47 _ _ (.int .u64) [] [.s] (Q14 N) (Q1o N) mixed Try.func47 (.mk' Try.func47 rfl (by decide)) rfl (Qao N) (Qa8 N)
noncomputable def Q84 (N : Nat) : Fun [(.sl tEvent)] (Option (ResT [(.sl tCard)])) := fun (x : List ((Int × Int) × UInt8 × Int × UInt8 × List UInt8 × List (Int × Int))) => iter (fun (rec : (Int × Unit) × Unit ×
 (Option (List Int × Nat) × Unit) × Unit → Option (List (Int × List (UInt8 × List UInt8 × List (List UInt8))))) (z : (Int × Unit) × Unit × (Option (List Int × Nat) × Unit) × Unit) => Q3j z.2.2.1.1 (bif decide
 (z.1.1 < (↑x.length : Int)) then (at? x z.1.1).bind fun (e : (Int × Int) × UInt8 × Int × UInt8 × List UInt8 × List (Int × Int)) => bif e.2.1 == 1 then rec ((IntKind.i64.wrap (z.1.1 + 1), ()), (), (some
 ([e.2.2.1], [e.2.2.1].length), ()), ()) else rec ((IntKind.i64.wrap (z.1.1 + 1), ()), (), (none, ()), ()) else Option.bind (F0_slices_Sort_suint64_uint64 N) fun (y : Unit) => Option.bind
 (Q1o N) fun (y : List Int) => iter (fun (rec : (List (Int × List (UInt8 × List UInt8 × List (List UInt8))) × Int × Unit) × Unit × Unit × Unit → Option (List (Int × List (UInt8 × List UInt8 ×
 List (List UInt8))))) (z : (List (Int × List (UInt8 × List UInt8 × List (List UInt8))) × Int × Unit) × Unit × Unit × Unit) => bif decide (z.1.2.1 < (↑y.length : Int)) then (at? y z.1.2.1).bind fun (e : Int)
 => Option.bind (Q6w N x e) fun (y : (Int × List (UInt8 × List UInt8 × List (List UInt8))) × Bool) => bif fitsB (z.1.1.length + [y.1].length) 32 then rec ((z.1.1 ++ [y.1], IntKind.i64.wrap
 (z.1.2.1 + 1), ()), (), (), ()) else none else some z.1.1) N (([], 0, ()), (), (), ())) fun (y : List Int × Nat) => bif decide (z.1.1 < (↑x.length : Int)) then (at? x z.1.1).bind fun (e : (Int × Int) ×
 UInt8 × Int × UInt8 × List UInt8 × List (Int × Int)) => bif e.2.1 == 1 then bif y.1.length.beq y.2 then bif fitsB (y.2 + [e.2.2.1].length) 8 then rec ((IntKind.i64.wrap (z.1.1 + 1), ()), (), (some
 (y.1 ++ [e.2.2.1], y.2 + [e.2.2.1].length), ()), ()) else none else none else rec ((IntKind.i64.wrap (z.1.1 + 1), ()), (), (some y, ()), ()) else Option.bind (F_slices_Sort_suint64_uint64 N y.1
 y.2) fun (y_1 : List Int × Unit) => Option.bind (Q14 N y_1.1 y.2) fun (y : List Int × Nat) => bif (0 + y.2).ble y.1.length then iter (fun (rec : (List (Int × List (UInt8 × List
 UInt8 × List (List UInt8))) × Int × Unit) × Unit × Unit × Unit → Option (List (Int × List (UInt8 × List UInt8 × List (List UInt8))))) (z : (List (Int × List (UInt8 × List UInt8 × List (List UInt8))) × Int × Unit) × Unit
 × Unit × Unit) => bif decide (z.1.2.1 < (↑y.2 : Int)) then (at? (List.take y.2 (List.drop 0 y.1)) z.1.2.1).bind fun (e : Int) => Option.bind (Q6w N x e) fun (y : (Int × List (UInt8 × List UInt8
 × List (List UInt8))) × Bool) => bif fitsB (z.1.1.length + [y.1].length) 32 then rec ((z.1.1 ++ [y.1], IntKind.i64.wrap (z.1.2.1 + 1), ()), (), (), ()) else none else some z.1.1) N (([], 0, ()),
 (), (), ()) else none) N ((0, ()), (), (none, ()), ())
theorem Qvm (N : Nat) : runF Try.prog [Qlz N, Qby N, Qav N] [24] N Try.f14 (.seq .lf (.seq .lf (.seq (.seq .lf (.blk (.loop ⟨[(13, .d (.int .i64))], [], [0, 11, 12], [], [(3, 400003, (.int .u64))], []⟩ .lf))) (.seq .lf (.seq .lf (.seq (.fz [29] .lf (.blk (.loop ⟨[(6, .tip 200006 tCard none), (31, .d (.int .i64))], [], [0, 29, 30], [], [], []⟩ .lf))) .lf)))))) [(.sl tEvent)] [(.sl tCard)] = Q84 N := by kernel_rfl
noncomputable def Qv4 (N : Nat) : Ent Try.prog := mkFn 14 Try.f14 _ [(.sl tEvent)] [(.sl tCard)] (Q84 N) mixed Try.func14 (.mk' Try.func14 rfl (by decide)) rfl (Qvm N)
noncomputable def Q28 (N : Nat) : Fun [] (Option (ResT [.bool])) := Option.bind (Q6w N [((1, 1), 1, 5, 1, [97], []), ((2, 1), 1, 5, 1, [98], [])] 5) fun (y : (Int × List (UInt8 × List UInt8 ×
 List (List UInt8))) × Bool) => bif y.2 then Option.bind (Q2a N y.1 (5, [(1, [98], [[97]])])) fun (y : Bool) => some y else some false
theorem Qhb (N : Nat) : runF Try.prog [Qlz N, Qbs N] [] N Try.f9 .lf [] [.bool] = Q28 N := by kernel_rfl
noncomputable def Qh2 (N : Nat) : Ent Try.prog := mkFn 9 Try.f9 _ [] [.bool] (Q28 N) mixed Try.func9 (.mk' Try.func9 rfl (by decide)) rfl (Qhb N)
noncomputable def Q5c (N : Nat) : Fun [(.int .u64)] (Option (ResT [(.int .u16), (.int .u64)])) := fun (x : Int) => some (IntKind.u16.wrap (IntKind.u64.wrap (x.tdiv 281474976710656)), x.tmod
 281474976710656)
theorem Qhe (N : Nat) : runF Try.prog [] [] N Try.f83 .lf [(.int .u64)] [(.int .u16), (.int .u64)] = Q5c N := by kernel_rfl
noncomputable def Qhg (N : Nat) : Ent Try.prog := mkFn 83 Try.f83 _ [(.int .u64)] [(.int .u16), (.int .u64)] (Q5c N) mixed Try.func83 (.mk' Try.func83 rfl (by decide)) rfl (Qhe N)
noncomputable def Q13 (N : Nat) : Fun [(.int .u64)] (Option (ResT [tDot, .bool])) := fun (x : Int) => Option.bind (Q5c N x) fun (y : Int × Int) => Option.bind (Qc N y)
 fun (y_1 : Bool) => bif !y_1 then some ((0, 0), false) else some (y, true)
theorem Qgp (N : Nat) : runF Try.prog [Qbt N, Qhg N] [] N Try.f50 .lf [(.int .u64)] [tDot, .bool] = Q13 N := by kernel_rfl
noncomputable def Qac (N : Nat) : Ent Try.prog := mkFn 50 Try.f50 _ [(.int .u64)] [tDot, .bool] (Q13 N) mixed Try.func50 (.mk' Try.func50 rfl (by decide)) rfl (Qgp N)
noncomputable def Qu (N : Nat) : Fun [.u8] (Option (ResT [.bool])) := fun (x : UInt8) => bif decide (1 ≤ x) then some (decide (x ≤ 5)) else some false
theorem Qid (N : Nat) : runF Try.prog [] [] N Try.f52 .lf [.u8] [.bool] = Qu N := by kernel_rfl
noncomputable def Qbu (N : Nat) : Ent Try.prog := mkFn 52 Try.f52 _ [.u8] [.bool] (Qu N) mixed Try.func52 (.mk' Try.func52 rfl (by decide)) rfl (Qid N)
noncomputable def Qh (N : Nat) : Fun [.str] (Option (ResT [.bool])) := fun (x : List UInt8) => iter (fun (rec : (Int × Unit) × Unit × Unit × Unit → Option Bool) (z : (Int × Unit) × Unit × Unit × Unit) =>
 bif decide (z.1.1 < (↑x.length : Int)) then (at? x z.1.1).bind fun (c : UInt8) => bif decide (c < 32) then some false else (at? x z.1.1).bind fun (c : UInt8) => bif decide (126 < c) then some false else rec
 ((IntKind.i64.wrap (z.1.1 + 1), ()), (), (), ()) else some (decide ((↑x.length : Int) ≤ 60))) N ((0, ()), (), (), ())
theorem Qig (N : Nat) : runF Try.prog [] [] N Try.f53 (.seq .lf (.seq (.seq .lf (.blk (.loop ⟨[(3, .d (.int .i64))], [], [0], [], [], []⟩ .lf))) .lf)) [.str] [.bool] = Qh N := by kernel_rfl
noncomputable def Q87 (N : Nat) : Ent Try.prog := mkFn 53 Try.f53 _ [.str] [.bool] (Qh N) mixed Try.func53 (.mk' Try.func53 rfl (by decide)) rfl (Qig N)
noncomputable def Qf (N : Nat) : Fun [(.sl tDot)] (Option (ResT [.bool])) := fun (x : List (Int × Int)) => iter (fun (rec : (Int × Unit) × Unit × Unit × Unit → Option Bool) (z : (Int × Unit) × Unit ×
 Unit × Unit) => bif decide (z.1.1 < (↑x.length : Int)) then (at? x (IntKind.i64.wrap (z.1.1 - 1))).bind fun (e : Int × Int) => (at? x z.1.1).bind fun (e_1 : Int × Int) => Option.bind (Q2r N e
 e_1) fun (y : Int) => bif decide (0 ≤ y) then some false else rec ((IntKind.i64.wrap (z.1.1 + 1), ()), (), (), ()) else some true) N ((1, ()), (), (), ())
theorem Qg7 (N : Nat) : runF Try.prog [Qd5 N] [] N Try.f54 (.seq .lf (.seq (.seq .lf (.blk (.loop ⟨[(3, .d (.int .i64))], [], [0], [], [], []⟩ .lf))) .lf)) [(.sl tDot)] [.bool] = Qf N := by kernel_rfl
noncomputable def Qga (N : Nat) : Ent Try.prog := mkFn 54 Try.f54 _ [(.sl tDot)] [.bool] (Qf N) mixed Try.func54 (.mk' Try.func54 rfl (by decide)) rfl (Qg7 N)
noncomputable def Q1c (N : Nat) : Fun [tEvent] (Option (ResT [.bool])) := fun (x : (Int × Int) × UInt8 × Int × UInt8 × List UInt8 × List (Int × Int)) => Option.bind (Q13 N x.2.2.1)
 fun (y : (Int × Int) × Bool) => bif !y.2 then some false else Option.bind (Qc N x.1) fun (y : Bool) => bif !y then some false else bif x.2.1 != 1 then bif x.2.1 != 2 then some false else bif
 x.2.1 == 1 then Option.bind (Qu N x.2.2.2.1) fun (y : Bool) => bif !y then some false else Option.bind (Qh N x.2.2.2.2.1) fun (y : Bool) => bif !y then some false
 else bif x.2.1 == 2 then bif x.2.2.2.1 != 0 then some false else bif x.2.2.2.2.1 != [] then some false else iter (fun (rec : (Int × Unit) × Unit × Unit × Unit → Option Bool) (z : (Int × Unit) ×
 Unit × Unit × Unit) => bif decide (z.1.1 < (↑x.2.2.2.2.2.length : Int)) then (at? x.2.2.2.2.2 z.1.1).bind fun (e : Int × Int) => Option.bind (Qc N e) fun (y : Bool) => bif !y
 then some false else rec ((IntKind.i64.wrap (z.1.1 + 1), ()), (), (), ()) else bif decide ((↑x.2.2.2.2.2.length : Int) ≤ 256) then Option.bind (Qf N x.2.2.2.2.2) fun (y : Bool)
 => bif y then Option.bind (Qj N x.2.2.2.2.2 x.1) fun (y : Bool) => some !y else some false else some false) N ((0, ()), (), (), ()) else iter (fun (rec : (Int × Unit) × Unit × Unit × Unit →
 Option Bool) (z : (Int × Unit) × Unit × Unit × Unit) => bif decide (z.1.1 < (↑x.2.2.2.2.2.length : Int)) then (at? x.2.2.2.2.2 z.1.1).bind fun (e : Int × Int) => Option.bind
 (Qc N e) fun (y : Bool) => bif !y then some false else rec ((IntKind.i64.wrap (z.1.1 + 1), ()), (), (), ()) else bif decide ((↑x.2.2.2.2.2.length : Int) ≤ 256) then Option.bind
 (Qf N x.2.2.2.2.2) fun (y : Bool) => bif y then Option.bind (Qj N x.2.2.2.2.2 x.1) fun (y : Bool) => some !y else some false else some false) N ((0, ()), (), (),
 ()) else bif x.2.1 == 2 then bif x.2.2.2.1 != 0 then some false else bif x.2.2.2.2.1 != [] then some false else iter (fun (rec : (Int × Unit) × Unit × Unit × Unit → Option Bool) (z : (Int × Unit) ×
 Unit × Unit × Unit) => bif decide (z.1.1 < (↑x.2.2.2.2.2.length : Int)) then (at? x.2.2.2.2.2 z.1.1).bind fun (e : Int × Int) => Option.bind (Qc N e) fun (y : Bool) => bif !y
 then some false else rec ((IntKind.i64.wrap (z.1.1 + 1), ()), (), (), ()) else bif decide ((↑x.2.2.2.2.2.length : Int) ≤ 256) then Option.bind (Qf N x.2.2.2.2.2) fun (y : Bool)
 => bif y then Option.bind (Qj N x.2.2.2.2.2 x.1) fun (y : Bool) => some !y else some false else some false) N ((0, ()), (), (), ()) else iter (fun (rec : (Int × Unit) × Unit × Unit × Unit →
 Option Bool) (z : (Int × Unit) × Unit × Unit × Unit) => bif decide (z.1.1 < (↑x.2.2.2.2.2.length : Int)) then (at? x.2.2.2.2.2 z.1.1).bind fun (e : Int × Int) => Option.bind
 (Qc N e) fun (y : Bool) => bif !y then some false else rec ((IntKind.i64.wrap (z.1.1 + 1), ()), (), (), ()) else bif decide ((↑x.2.2.2.2.2.length : Int) ≤ 256) then Option.bind
 (Qf N x.2.2.2.2.2) fun (y : Bool) => bif y then Option.bind (Qj N x.2.2.2.2.2 x.1) fun (y : Bool) => some !y else some false else some false) N ((0, ()), (), (),
 ()) else bif x.2.1 == 1 then Option.bind (Qu N x.2.2.2.1) fun (y : Bool) => bif !y then some false else Option.bind (Qh N x.2.2.2.2.1) fun (y : Bool) => bif !y
 then some false else bif x.2.1 == 2 then bif x.2.2.2.1 != 0 then some false else bif x.2.2.2.2.1 != [] then some false else iter (fun (rec : (Int × Unit) × Unit × Unit × Unit → Option Bool) (z :
 (Int × Unit) × Unit × Unit × Unit) => bif decide (z.1.1 < (↑x.2.2.2.2.2.length : Int)) then (at? x.2.2.2.2.2 z.1.1).bind fun (e : Int × Int) => Option.bind (Qc N e) fun (y :
 Bool) => bif !y then some false else rec ((IntKind.i64.wrap (z.1.1 + 1), ()), (), (), ()) else bif decide ((↑x.2.2.2.2.2.length : Int) ≤ 256) then Option.bind (Qf N
 x.2.2.2.2.2) fun (y : Bool) => bif y then Option.bind (Qj N x.2.2.2.2.2 x.1) fun (y : Bool) => some !y else some false else some false) N ((0, ()), (), (), ()) else iter (fun (rec :
 (Int × Unit) × Unit × Unit × Unit → Option Bool) (z : (Int × Unit) × Unit × Unit × Unit) => bif decide (z.1.1 < (↑x.2.2.2.2.2.length : Int)) then (at? x.2.2.2.2.2 z.1.1).bind fun (e : Int ×
 Int) => Option.bind (Qc N e) fun (y : Bool) => bif !y then some false else rec ((IntKind.i64.wrap (z.1.1 + 1), ()), (), (), ()) else bif decide ((↑x.2.2.2.2.2.length : Int) ≤ 256) then
 Option.bind (Qf N x.2.2.2.2.2) fun (y : Bool) => bif y then Option.bind (Qj N x.2.2.2.2.2 x.1) fun (y : Bool) => some !y else some false else some false) N ((0,
 ()), (), (), ()) else bif x.2.1 == 2 then bif x.2.2.2.1 != 0 then some false else bif x.2.2.2.2.1 != [] then some false else iter (fun (rec : (Int × Unit) × Unit × Unit × Unit → Option Bool) (z :
 (Int × Unit) × Unit × Unit × Unit) => bif decide (z.1.1 < (↑x.2.2.2.2.2.length : Int)) then (at? x.2.2.2.2.2 z.1.1).bind fun (e : Int × Int) => Option.bind (Qc N e) fun (y :
 Bool) => bif !y then some false else rec ((IntKind.i64.wrap (z.1.1 + 1), ()), (), (), ()) else bif decide ((↑x.2.2.2.2.2.length : Int) ≤ 256) then Option.bind (Qf N
 x.2.2.2.2.2) fun (y : Bool) => bif y then Option.bind (Qj N x.2.2.2.2.2 x.1) fun (y : Bool) => some !y else some false else some false) N ((0, ()), (), (), ()) else iter (fun (rec :
 (Int × Unit) × Unit × Unit × Unit → Option Bool) (z : (Int × Unit) × Unit × Unit × Unit) => bif decide (z.1.1 < (↑x.2.2.2.2.2.length : Int)) then (at? x.2.2.2.2.2 z.1.1).bind fun (e : Int ×
 Int) => Option.bind (Qc N e) fun (y : Bool) => bif !y then some false else rec ((IntKind.i64.wrap (z.1.1 + 1), ()), (), (), ()) else bif decide ((↑x.2.2.2.2.2.length : Int) ≤ 256) then
 Option.bind (Qf N x.2.2.2.2.2) fun (y : Bool) => bif y then Option.bind (Qj N x.2.2.2.2.2 x.1) fun (y : Bool) => some !y else some false else some false) N ((0,
 ()), (), (), ())
theorem Qif (N : Nat) : runF Try.prog [Qjd N, Qac N, Qbt N, Qbu N, Q87 N, Qga N] [] N Try.f17 (.seq .lf (.seq .lf (.seq .lf (.seq .lf (.seq (.seq .lf (.blk (.loop ⟨[(5, .d (.int .i64))], [], [1], [1001], [], []⟩ .lf))) .lf))))) [tEvent] [.bool] = Q1c N := by kernel_rfl
noncomputable def Qih (N : Nat) : Ent Try.prog := mkFn 17 Try.f17 _ [tEvent] [.bool] (Q1c N) mixed Try.func17 (.mk' Try.func17 rfl (by decide)) rfl (Qif N)
noncomputable def Q1t (N : Nat) : Fun [(.sl .str), .str] (Option (ResT [.bool])) := fun (x : List (List UInt8)) (x_1 : List UInt8) => iter (fun (rec : (Int × Unit) × Unit × Unit × Unit → Option Bool) (z :
 (Int × Unit) × Unit × Unit × Unit) => bif decide (z.1.1 < (↑x.length : Int)) then (at? x z.1.1).bind fun (e : List UInt8) => Option.bind (Qh N e) fun (y : Bool) => bif !y then some false else
 (at? x z.1.1).bind fun (e : List UInt8) => bif e == x_1 then some false else bif decide (0 < z.1.1) then (at? x (IntKind.i64.wrap (z.1.1 - 1))).bind fun (e : List UInt8) => (at? x z.1.1).bind fun (e_1 :
 List UInt8) => bif !Op.bytesLess e e_1 then some false else rec ((IntKind.i64.wrap (z.1.1 + 1), ()), (), (), ()) else rec ((IntKind.i64.wrap (z.1.1 + 1), ()), (), (), ()) else some true) N ((0, ()), (), (), ())
theorem Qij (N : Nat) : runF Try.prog [Q87 N] [] N Try.f55 (.seq .lf (.seq (.seq .lf (.blk (.loop ⟨[(5, .d (.int .i64))], [], [0, 1], [], [], []⟩ .lf))) .lf)) [(.sl .str), .str] [.bool] = Q1t N := by kernel_rfl
noncomputable def Qio (N : Nat) : Ent Try.prog := mkFn 55 Try.f55 _ [(.sl .str), .str] [.bool] (Q1t N) mixed Try.func55 (.mk' Try.func55 rfl (by decide)) rfl (Qij N)
noncomputable def Q1s (N : Nat) : Fun [tCard] (Option (ResT [.bool])) := fun (x : Int × List (UInt8 × List UInt8 × List (List UInt8))) => Option.bind (Q13 N x.1) fun (y : (Int × Int) ×
 Bool) => bif !y.2 then some false else bif (↑x.2.length : Int) == 0 then some false else iter (fun (rec : (Int × Unit) × Unit × Unit × Unit → Option Bool) (z : (Int × Unit) × Unit × Unit × Unit) => bif decide
 (z.1.1 < (↑x.2.length : Int)) then (at? x.2 z.1.1).bind fun (e : UInt8 × List UInt8 × List (List UInt8)) => Option.bind (Qu N e.1) fun (y : Bool) => bif !y then some false else bif decide
 (0 < z.1.1) then (at? x.2 (IntKind.i64.wrap (z.1.1 - 1))).bind fun (e_1 : UInt8 × List UInt8 × List (List UInt8)) => bif decide (e.1 ≤ e_1.1) then some false else Option.bind (Qh N
 e.2.1) fun (y : Bool) => bif !y then some false else Option.bind (Q1t N e.2.2 e.2.1) fun (y : Bool) => bif !y then some false else rec ((IntKind.i64.wrap (z.1.1 + 1), ()), (), (), ())
 else Option.bind (Qh N e.2.1) fun (y : Bool) => bif !y then some false else Option.bind (Q1t N e.2.2 e.2.1) fun (y : Bool) => bif !y then some false else rec
 ((IntKind.i64.wrap (z.1.1 + 1), ()), (), (), ()) else some true) N ((0, ()), (), (), ())
theorem Qil (N : Nat) : runF Try.prog [Qac N, Qbu N, Q87 N, Qio N] [] N Try.f18 (.seq .lf (.seq .lf (.seq .lf (.seq (.seq .lf (.blk (.loop ⟨[(5, .d (.int .i64))], [], [1], [1001], [], []⟩ .lf))) .lf)))) [tCard] [.bool] = Q1s N := by kernel_rfl
noncomputable def Qii (N : Nat) : Ent Try.prog := mkFn 18 Try.f18 _ [tCard] [.bool] (Q1s N) mixed Try.func18 (.mk' Try.func18 rfl (by decide)) rfl (Qil N)
noncomputable def Q36 (N : Nat) : Fun [(.sl tEvent), .u8] (Option (ResT [.bool])) := fun (x : List ((Int × Int) × UInt8 × Int × UInt8 × List UInt8 × List (Int × Int))) (x_1 : UInt8) => Option.bind
 (Q2n N x 15) fun (y : Bool) => bif !y then Option.bind (Q28 N) fun (y : Bool) => some y else Option.bind (Q3g N x) fun (y : List ((Int × Int) × UInt8 × Int × UInt8 × List
 UInt8 × List (Int × Int))) => iter (fun (rec : (List ((Int × Int) × UInt8 × Int × UInt8 × List UInt8 × List (Int × Int)) × Bool × Int × Unit) × Unit × Unit × Unit → Option Bool) (z : (List ((Int × Int) × UInt8 × Int ×
 UInt8 × List UInt8 × List (Int × Int)) × Bool × Int × Unit) × Unit × Unit × Unit) => bif decide (z.1.2.2.1 < (↑y.length : Int)) then bif (↑y.length : Int) == 0 then none else (at? y ((IntKind.i64.wrap
 (IntKind.i64.wrap (IntKind.i64.wrap ((↑y.length : Int) - 1) - z.1.2.2.1) + (↑x_1.toNat : Int))).tmod (↑y.length : Int))).bind fun (e : (Int × Int) × UInt8 × Int × UInt8 × List UInt8 × List (Int × Int)) => bif
 fitsB (z.1.1.length + [e].length) 80 then bif z.1.2.1 then (at? y z.1.2.2.1).bind fun (e_1 : (Int × Int) × UInt8 × Int × UInt8 × List UInt8 × List (Int × Int)) => Option.bind (Q1c N
 e_1) fun (y : Bool) => rec ((z.1.1 ++ [e], y, IntKind.i64.wrap (z.1.2.2.1 + 1), ()), (), (), ()) else rec ((z.1.1 ++ [e], false, IntKind.i64.wrap (z.1.2.2.1 + 1), ()), (), (), ()) else none else
 Option.bind (Q84 N y) fun (y : List (Int × List (UInt8 × List UInt8 × List (List UInt8)))) => iter (fun (rec : (Int × Unit) × Unit × Unit × Unit → Option Bool) (z_1 : (Int × Unit) × Unit × Unit × Unit) => bif
 decide (z_1.1.1 < (↑y.length : Int)) then bif z.1.2.1 then (at? y z_1.1.1).bind fun (e : Int × List (UInt8 × List UInt8 × List (List UInt8))) => Option.bind (Q1s N e) fun (y : Bool) => bif
 !y then some false else rec ((IntKind.i64.wrap (z_1.1.1 + 1), ()), (), (), ()) else rec ((IntKind.i64.wrap (z_1.1.1 + 1), ()), (), (), ()) else Option.bind (Q84 N z.1.1) fun (y_1 : List (Int × List
 (UInt8 × List UInt8 × List (List UInt8)))) => Option.bind (Q43 N y y_1) fun (y : Bool) => bif y then Option.bind (Q28 N) fun (y : Bool) => some y else some false) N ((0, ()), (), (), ()))
 N (([], true, 0, ()), (), (), ())
theorem Qeq (N : Nat) : runF Try.prog [Qj7 N, Qv4 N, Qim N, Qih N, Qii N, Qiu N, Qh2 N] [] N Try.f4 (.seq .lf (.seq .lf (.seq .lf (.seq .lf (.seq .lf (.seq (.seq .lf (.blk (.loop ⟨[(6, .tip 200006 tEvent none), (7, .d .bool), (8, .d (.int .i64))], [], [1, 5], [], [], []⟩ .lf))) (.seq .lf (.seq (.seq .lf (.blk (.loop ⟨[(10, .d (.int .i64))], [], [6, 7, 9], [], [], []⟩ .lf))) .lf)))))))) [(.sl tEvent), .u8] [.bool] = Q36 N := by kernel_rfl
theorem D_epitaphlaw19_ViewOrder (N : Nat) : Qg4 Try.prog 4 [.bool] [(.sl tEvent), .u8] (Q36 N) [] := Qeq N ▸ Qoi mixed Try.func4 rfl
end Go.Proofs.Xg
set_option linter.unusedVariables false
set_option linter.unusedSimpArgs false
namespace Go.Proofs.Xg
open Go Go.Xl Go.Ab Go.Proofs Go.Sort
section
variable {α : Type} [DecidableEq α]
def Q5t (p : α) : List α → List α
 | [] => []
 | y :: r => if y = p then Q5t p r else y :: Q5t y r
def comp : List α → List α
 | [] => []
 | x :: r => x :: Q5t x r
theorem Qlr (q y : α) : ∀ (p : α) (l : List α), (p :: l).getLast? = some q → Q5t p (l ++ [y]) = if y = q then Q5t p l else Q5t p l ++ [y]
 | p, [], h => by
  simp at h
  subst h
  simp [Q5t]
 | p, x :: r, h => by
  rw [List.getLast?_cons_cons] at h
  simp only [List.cons_append, Q5t]
  have ih := Qlr q y x r h
  by_cases hx : x = p
  ·subst hx
   rw [if_pos rfl, if_pos rfl, ih]
  ·rw [if_neg hx, if_neg hx, ih]
   by_cases hy : y = q
   ·rw [if_pos hy, if_pos hy]
   ·rw [if_neg hy, if_neg hy]; rfl
theorem Q9c {l : List α} {m : Nat} (hm : 0 < m) {a b : α} (ha : l[m - 1]? = some a) (hb : l[m]? = some b) : comp (l.take (m + 1)) = if b = a then comp (l.take m) else comp (l.take m) ++ [b] := by
 have hlt : m < l.length := (List.getElem?_eq_some_iff.1 hb).1
 have e : l.take (m + 1) = l.take m ++ [b] := by
  rw [List.take_add_one, hb]; rfl
 rw [e]
 cases hl : l.take m with
 | nil => simp at hl; rcases hl with h | h <;> (subst h; simp at *)
 | cons x r =>
  have hlast : (x :: r).getLast? = some a := by
   rw [← hl, List.getLast?_eq_getElem?, List.length_take, List.getElem?_take, Nat.min_eq_left (by omega), if_pos (by omega)]; exact ha
  simp only [List.cons_append, comp]
  rw [Qlr a b x r hlast]
  by_cases h : b = a
  ·rw [if_pos h, if_pos h]
  ·rw [if_neg h, if_neg h]
theorem Qh8 (l : List α) : comp (l.take 1) = l.take 1 := by
 cases l with
 | nil => rfl
 | cons x r => simp [comp, Q5t]
end
theorem Q135 (e f : Int × Int) : (e.fst == f.fst && e.snd == f.snd) = decide (e = f) := by
 obtain ⟨a, b⟩ := e; obtain ⟨c, d⟩ := f
 by_cases h1 : a = c <;> by_cases h2 : b = d <;> simp [h1, h2]
end Go.Proofs.Xg
set_option linter.unusedVariables false
set_option linter.unusedSimpArgs false
namespace Go.Proofs.Xg
open Go Go.Xl Go.Ab Go.Proofs Go.Sort
theorem getElem?_lt {α : Type} {l : List α} {i : Nat} (h : i < l.length) : l[i]? = some l[i] := List.getElem?_eq_getElem h
theorem Q4o (n : Nat) : ((n : Int)).toNat = n := rfl
end Go.Proofs.Xg
set_option linter.unusedVariables false
set_option linter.unusedSimpArgs false
set_option linter.unusedSectionVars false
namespace Go.Proofs.Xg
open Go Go.Xl Go.Ab Go.Proofs Go.Sort
theorem Q12z {σ R : Type} {f : (σ → Option R) → σ → Option R} (st : Nat → σ) (G : Nat → Option R) (a n : Nat) (han : a ≤ n)
  (hs : ∀ (rec : σ → Option R) (k : Nat), a ≤ k → k < n → rec (st (k + 1)) = G (k + 1) → f rec (st k) = G k) (he : ∀ rec, f rec (st n) = G n) (N : Nat) (hN : n < N) : iter f N (st a) = G a := by
 have h := Q4q (f := f) (Q := fun _ => True)
 clear h
 have key : ∀ (m k : Nat), a ≤ k → k ≤ n → n - k < m → iter f m (st k) = G k := by
  intro m
  induction m with
  | zero => intro k _ _ h; omega
  | succ m ih =>
   intro k h1 h2 h3
   simp only [iter]
   by_cases hk : k < n
   ·exact hs _ k h1 hk (ih (k + 1) (by omega) (by omega) (by omega))
   ·have : k = n := by omega
    subst this
    exact he _
 exact key N a (Nat.le_refl _) han (by omega)
theorem Q7f {σ R : Type} {f : (σ → Option R) → σ → Option R} (st : Nat → σ) (r : Option R) (a n : Nat) (han : a ≤ n)
  (hs : ∀ (rec : σ → Option R) (k : Nat), a ≤ k → k < n → f rec (st k) = rec (st (k + 1))) (he : ∀ rec, f rec (st n) = r) (N : Nat) (hN : n < N) : iter f N (st a) = r :=
 Q12z st (fun _ => r) a n han (fun rec k h1 h2 h => (hs rec k h1 h2).trans h) he N hN
theorem Q2p {α : Type} {l : List α} {k : Nat} (h : k < l.length) : l.take (k + 1) = l.take k ++ [l[k]] := by
 rw [List.take_add_one, List.getElem?_eq_getElem h]; rfl
structure Tot {α : Type} (lt : α → α → Bool) : Prop where
 asymm : ∀ x y, lt x y = true → lt y x = false
 trans : ∀ {x y z}, lt x y = true → lt y z = true → lt x z = true
 total : ∀ x y, lt x y = false → lt y x = false → x = y
section
variable {α : Type} {lt : α → α → Bool}
def putG (lt : α → α → Bool) (d : α) (l : List α) : List α := l.filter (fun x => lt x d) ++ [d] ++ l.filter (fun x => lt d x)
theorem Qv2 (h : Tot lt) (d : α) (l : List α) : (putG lt d l).length ≤ l.length + 1 := by
 unfold putG
 have : ∀ l : List α, (l.filter (fun x => lt x d)).length + (l.filter (fun x => lt d x)).length ≤ l.length := by
  intro l
  induction l with
  | nil => simp
  | cons x r ih =>
   simp only [List.filter_cons]
   cases h1 : lt x d with
   | true => rw [h.asymm _ _ h1]; simp; omega
   | false => cases lt d x <;> simp <;> omega
 have := this l
 simp; omega
theorem Q10w (h : Tot lt) (d x : α) (l : List α) : x ∈ putG lt d l ↔ x = d ∨ x ∈ l := by
 unfold putG
 simp only [List.mem_append, List.mem_filter, List.mem_singleton]
 constructor
 ·rintro ((⟨h, _⟩ | h) | ⟨h, _⟩)
  ·exact .inr h
  ·exact .inl h
  ·exact .inr h
 ·rintro (h0 | h0)
  ·exact .inl (.inr h0)
  ·cases h1 : lt x d with
   | true => exact .inl (.inl ⟨h0, rfl⟩)
   | false =>
    cases h2 : lt d x with
    | true => exact .inr ⟨h0, rfl⟩
    | false => exact .inl (.inr (h.total _ _ h1 h2))
theorem Q122 (h : Tot lt) (d : α) (l : List α) (hl : SAsc lt l) : SAsc lt (putG lt d l) := by
 unfold putG SAsc
 rw [List.append_assoc, List.pairwise_append, List.singleton_append, List.pairwise_cons]
 refine ⟨List.Pairwise.filter _ hl, ⟨fun y hy => (List.mem_filter.1 hy).2, List.Pairwise.filter _ hl⟩, ?_⟩
 intro a ha b hb
 have h1 := (List.mem_filter.1 ha).2
 rcases List.mem_cons.1 hb with rfl | hb
 ·exact h1
 ·exact h.trans h1 (List.mem_filter.1 hb).2
def putsG (lt : α → α → Bool) (l : List α) : List α := l.foldl (fun q d => putG lt d q) []
theorem Qcq (h : Tot lt) : ∀ (l q : List α), SAsc lt q → SAsc lt (l.foldl (fun q d => putG lt d q) q) ∧ (∀ x, x ∈ l.foldl (fun q d => putG lt d q) q ↔ x ∈ q ∨ x ∈ l) ∧ (l.foldl (fun q d => putG lt d q) q).length ≤ q.length + l.length
 | [], q, hq => ⟨hq, by simp, by simp⟩
 | d :: r, q, hq => by
  obtain ⟨h1, h2, h3⟩ := Qcq h r (putG lt d q) (Q122 h d q hq)
  refine ⟨h1, fun x => ?_, ?_⟩
  ·rw [List.foldl_cons, h2, Q10w h]; simp; constructor <;> rintro (h | h) <;> grind
  ·rw [List.foldl_cons]
   have := Qv2 h d q
   simp; omega
theorem Qfe (h : Tot lt) (l : List α) : SAsc lt (putsG lt l) := (Qcq h l [] (by simp [SAsc])).1
theorem Qcu (h : Tot lt) (l : List α) (x : α) : x ∈ putsG lt l ↔ x ∈ l := by
 have := (Qcq h l [] (by simp [SAsc])).2.1 x
 simpa [putsG] using this
theorem Qkv (h : Tot lt) (l : List α) : (putsG lt l).length ≤ l.length := by
 have := (Qcq h l [] (by simp [SAsc])).2.2
 simpa [putsG] using this
variable [DecidableEq α]
theorem Qfl {p x : α} : ∀ {l : List α}, (x = p ∨ x ∈ Q5t p l) ↔ (x = p ∨ x ∈ l)
 | [] => by simp [Q5t]
 | y :: r => by
  simp only [Q5t]
  by_cases hy : y = p
  ·subst hy
   rw [if_pos rfl, Qfl (l := r)]; simp
  ·rw [if_neg hy]
   have := Qfl (p := y) (x := x) (l := r)
   simp only [List.mem_cons]
   rw [this]
theorem Qfu (h : Tot lt) : ∀ (p : α) (l : List α), (p :: l).Pairwise (fun a b => lt b a = false) → SAsc lt (p :: Q5t p l)
 | p, [], h0 => by simp [Q5t, SAsc]
 | p, y :: r, h0 => by
  have h' := h0
  simp only [List.pairwise_cons, List.mem_cons] at h'
  simp only [Q5t]
  by_cases hy : y = p
  ·subst hy
   rw [if_pos rfl]
   exact Qfu h y r (by simp only [List.pairwise_cons]; exact ⟨fun a ha => h'.1 a (.inr ha), h'.2.2⟩)
  ·rw [if_neg hy]
   have ih := Qfu h y r (by simp only [List.pairwise_cons]; exact h'.2)
   have hpy : lt p y = true := by
    cases hh : lt p y with
    | true => rfl
    | false => exact absurd (h.total _ _ (h'.1 y (.inl rfl)) hh) hy
   unfold SAsc at *
   rw [List.pairwise_cons]
   refine ⟨fun a ha => ?_, ih⟩
   rcases List.mem_cons.1 ha with rfl | ha
   ·exact hpy
   ·exact h.trans hpy ((List.pairwise_cons.1 ih).1 a ha)
theorem Qr1 (h : Tot lt) {l s : List α} (hp : s.Perm l) (hs : s.Pairwise (fun a b => lt b a = false)) : comp s = putsG lt l := by
 have hm : ∀ x, x ∈ comp s ↔ x ∈ l := by
  intro x
  rw [← hp.mem_iff]
  cases s with
  | nil => simp [comp]
  | cons p r => simp only [comp, List.mem_cons]; exact Qfl
 refine SAsc.ext h.asymm ?_ (Qfe h l) fun x => by rw [hm, Qcu h]
 cases s with
 | nil => simp [comp, SAsc]
 | cons p r => exact Qfu h p r hs
theorem Qpz (h : Tot lt) {l m : List α} (hm : ∀ x, x ∈ l ↔ x ∈ m) : putsG lt l = putsG lt m :=
 SAsc.ext h.asymm (Qfe h l) (Qfe h m) fun x => by rw [Qcu h, Qcu h, hm]
end
theorem Qgl : Tot (fun x y : Int => decide (x < y)) := ⟨fun x y h => by simp at *; omega, fun h h' => by simp at *; omega, fun x y h h' => by simp at *; omega⟩
end Go.Proofs.Xg
