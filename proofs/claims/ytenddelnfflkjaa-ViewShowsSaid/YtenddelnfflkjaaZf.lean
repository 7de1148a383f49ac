import Derived.Test.YtenddelnfflkjaaZe
import Derived.Sort.AssemblyPlain
import Derived.KernelRfl
set_option linter.unusedVariables false
set_option maxRecDepth 100000
namespace Go.Proofs.Xu
open Go Go.Xl Go.Ab Go.Proofs Go.Sort
class OrdS (El : Type) where
 lt : El → El → Bool
 L : El → El → Option Bool
 dflt : El
 hL : ∀ x y, L x y = some (lt x y)
 swo : SWO lt
 anti : ∀ x y, lt x y = false → lt y x = false → x = y
noncomputable def Q4q {El : Type} [OrdS El] (N : Nat) :=
 fun (l : List El) (n : Nat) (x x_1 : Int) =>
 iter
  (fun (rec : (Int × Unit) × Unit × Unit × List El × Unit → Option (List El × Unit))
    (z : (Int × Unit) × Unit × Unit × List El × Unit) =>
   bif decide (z.1.1 < x_1) then
    iter
     (fun (rec_1 : (Int × Unit) × Unit × Unit × List El × Unit → Option (List El × Unit))
       (z_1 : (Int × Unit) × Unit × Unit × List El × Unit) =>
      Qj
       (fun (z : Unit × Unit × Unit × Unit) =>
        bif
          decide (0 ≤ IntKind.i64.wrap (z_1.1.1 - 1)) &&
           decide (IntKind.i64.wrap (z_1.1.1 - 1) < (↑n : Int)) then
         z_1.2.2.2.1[0 + (IntKind.i64.wrap (z_1.1.1 - 1)).toNat]?.bind fun (e : El) =>
          bif decide (0 ≤ z_1.1.1) && decide (z_1.1.1 < (↑n : Int)) then
           z_1.2.2.2.1[0 + z_1.1.1.toNat]?.bind fun (e_1 : El) =>
            bif decide (0 ≤ z_1.1.1) && decide (z_1.1.1 < (↑n : Int)) then
             z_1.2.2.2.1[0 + z_1.1.1.toNat]?.bind fun (e_2 : El) =>
              bif
                decide (0 ≤ IntKind.i64.wrap (z_1.1.1 - 1)) &&
                 decide (IntKind.i64.wrap (z_1.1.1 - 1) < (↑n : Int)) then
               (z_1.2.2.2.1.set (0 + z_1.1.1.toNat)
                   e)[0 + (IntKind.i64.wrap (z_1.1.1 - 1)).toNat]?.bind
                fun (e_3 : El) =>
                rec_1
                 ((IntKind.i64.wrap (z_1.1.1 - 1), ()), (), (),
                  (z_1.2.2.2.1.set (0 + z_1.1.1.toNat) e).set
                   (0 + (IntKind.i64.wrap (z_1.1.1 - 1)).toNat) e_1,
                  ())
              else none
            else none
          else none
        else none)
       fun (k : Unit × Unit × Unit × Unit → Option (List El × Unit)) =>
       bif decide (x < z_1.1.1) then
        bif decide (0 ≤ z_1.1.1) && decide (z_1.1.1 < (↑n : Int)) then
         z_1.2.2.2.1[0 + z_1.1.1.toNat]?.bind fun (e : El) =>
          bif
            decide (0 ≤ IntKind.i64.wrap (z_1.1.1 - 1)) &&
             decide (IntKind.i64.wrap (z_1.1.1 - 1) < (↑n : Int)) then
           z_1.2.2.2.1[0 + (IntKind.i64.wrap (z_1.1.1 - 1)).toNat]?.bind
            fun (e_1 : El) =>
            Option.bind (OrdS.L e e_1) fun (y : Bool) =>
             bif y then k ((), (), (), ())
             else rec ((IntKind.i64.wrap (z.1.1 + 1), ()), (), (), z_1.2.2.2.1, ())
          else none
        else none
       else rec ((IntKind.i64.wrap (z.1.1 + 1), ()), (), (), z_1.2.2.2.1, ()))
     N ((z.1.1, ()), (), (), z.2.2.2.1, ())
   else some (z.2.2.2.1, ()))
  N ((IntKind.i64.wrap (x + 1), ()), (), (), l, ())
noncomputable def Q7p {El : Type} [OrdS El] (N : Nat) :=
 fun (l : List El) (n : Nat) (x x_1 x_2 : Int) =>
 iter
  (fun (rec : (Int × Unit) × Unit × Unit × List El × Unit → Option (List El × Unit))
    (z : (Int × Unit) × Unit × Unit × List El × Unit) =>
   bif decide (x_1 ≤ IntKind.i64.wrap (IntKind.i64.wrap (2 * z.1.1) + 1)) then some (z.2.2.2.1, ())
   else
    Qj
     (fun (z_1 : (Int × Unit) × Unit × Unit × Unit) =>
      bif
        decide (0 ≤ IntKind.i64.wrap (x_2 + z.1.1)) &&
         decide (IntKind.i64.wrap (x_2 + z.1.1) < (↑n : Int)) then
       z.2.2.2.1[0 + (IntKind.i64.wrap (x_2 + z.1.1)).toNat]?.bind fun (e : El) =>
        bif
          decide (0 ≤ IntKind.i64.wrap (x_2 + z_1.1.1)) &&
           decide (IntKind.i64.wrap (x_2 + z_1.1.1) < (↑n : Int)) then
         z.2.2.2.1[0 + (IntKind.i64.wrap (x_2 + z_1.1.1)).toNat]?.bind fun (e_1 : El) =>
          Option.bind (OrdS.L e e_1) fun (y : Bool) =>
           bif !y then some (z.2.2.2.1, ())
           else
            bif
              decide (0 ≤ IntKind.i64.wrap (x_2 + z_1.1.1)) &&
               decide (IntKind.i64.wrap (x_2 + z_1.1.1) < (↑n : Int)) then
             z.2.2.2.1[0 + (IntKind.i64.wrap (x_2 + z_1.1.1)).toNat]?.bind
              fun (e : El) =>
              bif
                decide (0 ≤ IntKind.i64.wrap (x_2 + z.1.1)) &&
                 decide (IntKind.i64.wrap (x_2 + z.1.1) < (↑n : Int)) then
               z.2.2.2.1[0 + (IntKind.i64.wrap (x_2 + z.1.1)).toNat]?.bind
                fun (e_2 : El) =>
                bif
                  decide (0 ≤ IntKind.i64.wrap (x_2 + z.1.1)) &&
                   decide (IntKind.i64.wrap (x_2 + z.1.1) < (↑n : Int)) then
                 z.2.2.2.1[0 + (IntKind.i64.wrap (x_2 + z.1.1)).toNat]?.bind
                  fun (e_3 : El) =>
                  bif
                    decide (0 ≤ IntKind.i64.wrap (x_2 + z_1.1.1)) &&
                     decide (IntKind.i64.wrap (x_2 + z_1.1.1) < (↑n : Int)) then
                   (z.2.2.2.1.set (0 + (IntKind.i64.wrap (x_2 + z.1.1)).toNat)
                       e)[0 + (IntKind.i64.wrap (x_2 + z_1.1.1)).toNat]?.bind
                    fun (e_4 : El) =>
                    rec
                     ((z_1.1.1, ()), (), (),
                      (z.2.2.2.1.set (0 + (IntKind.i64.wrap (x_2 + z.1.1)).toNat)
                         e).set
                       (0 + (IntKind.i64.wrap (x_2 + z_1.1.1)).toNat) e_2,
                      ())
                  else none
                else none
              else none
            else none
        else none
      else none)
     fun (k : (Int × Unit) × Unit × Unit × Unit → Option (List El × Unit)) =>
     bif decide (IntKind.i64.wrap (IntKind.i64.wrap (IntKind.i64.wrap (2 * z.1.1) + 1) + 1) < x_1) then
      bif
        decide (0 ≤ IntKind.i64.wrap (x_2 + IntKind.i64.wrap (IntKind.i64.wrap (2 * z.1.1) + 1))) &&
         decide
          (IntKind.i64.wrap (x_2 + IntKind.i64.wrap (IntKind.i64.wrap (2 * z.1.1) + 1)) < (↑n : Int)) then
       z.2.2.2.1[0 +
           (IntKind.i64.wrap (x_2 + IntKind.i64.wrap (IntKind.i64.wrap (2 * z.1.1) + 1))).toNat]?.bind
        fun (e : El) =>
        bif
          decide
            (0 ≤
             IntKind.i64.wrap
              (IntKind.i64.wrap (x_2 + IntKind.i64.wrap (IntKind.i64.wrap (2 * z.1.1) + 1)) + 1)) &&
           decide
            (IntKind.i64.wrap
              (IntKind.i64.wrap (x_2 + IntKind.i64.wrap (IntKind.i64.wrap (2 * z.1.1) + 1)) + 1) <
             (↑n : Int)) then
         z.2.2.2.1[0 +
             (IntKind.i64.wrap
               (IntKind.i64.wrap (x_2 + IntKind.i64.wrap (IntKind.i64.wrap (2 * z.1.1) + 1)) +
                1)).toNat]?.bind
          fun (e_1 : El) =>
          Option.bind (OrdS.L e e_1) fun (y : Bool) =>
           bif y then
            k
             ((IntKind.i64.wrap (IntKind.i64.wrap (IntKind.i64.wrap (2 * z.1.1) + 1) + 1), ()), (), (),
              ())
           else k ((IntKind.i64.wrap (IntKind.i64.wrap (2 * z.1.1) + 1), ()), (), (), ())
        else none
      else none
     else k ((IntKind.i64.wrap (IntKind.i64.wrap (2 * z.1.1) + 1), ()), (), (), ()))
  N ((x, ()), (), (), l, ())
noncomputable def Q9f {El : Type} [OrdS El] (N : Nat) :=
 fun (l : List El) (n : Nat) (x x_1 : Int) =>
 iter
  (fun (rec : (Int × Unit) × Unit × Unit × List El × Unit → Option (List El × Unit))
    (z : (Int × Unit) × Unit × Unit × List El × Unit) =>
   bif decide (0 ≤ z.1.1) then
    Option.bind (Q7p N z.2.2.2.1 n z.1.1 (IntKind.i64.wrap (x_1 - x)) x)
     fun (y : List El × Unit) => rec ((IntKind.i64.wrap (z.1.1 - 1), ()), (), (), y.1, ())
   else
    iter
     (fun (rec : (Int × Unit) × Unit × Unit × List El × Unit → Option (List El × Unit))
       (z : (Int × Unit) × Unit × Unit × List El × Unit) =>
      bif decide (0 ≤ z.1.1) then
       bif
         decide (0 ≤ IntKind.i64.wrap (x + z.1.1)) &&
          decide (IntKind.i64.wrap (x + z.1.1) < (↑n : Int)) then
        z.2.2.2.1[0 + (IntKind.i64.wrap (x + z.1.1)).toNat]?.bind fun (e : El) =>
         bif decide (0 ≤ x) && decide (x < (↑n : Int)) then
          z.2.2.2.1[0 + x.toNat]?.bind fun (e_1 : El) =>
           bif decide (0 ≤ x) && decide (x < (↑n : Int)) then
            z.2.2.2.1[0 + x.toNat]?.bind fun (e_2 : El) =>
             bif
               decide (0 ≤ IntKind.i64.wrap (x + z.1.1)) &&
                decide (IntKind.i64.wrap (x + z.1.1) < (↑n : Int)) then
              (z.2.2.2.1.set (0 + x.toNat) e)[0 + (IntKind.i64.wrap (x + z.1.1)).toNat]?.bind
               fun (e_3 : El) =>
               Option.bind
                (Q7p N
                 ((z.2.2.2.1.set (0 + x.toNat) e).set
                  (0 + (IntKind.i64.wrap (x + z.1.1)).toNat) e_1)
                 n 0 z.1.1 x)
                fun (y : List El × Unit) =>
                rec ((IntKind.i64.wrap (z.1.1 - 1), ()), (), (), y.1, ())
             else none
           else none
         else none
       else none
      else some (z.2.2.2.1, ()))
     N ((IntKind.i64.wrap (IntKind.i64.wrap (x_1 - x) - 1), ()), (), (), z.2.2.2.1, ()))
  N ((IntKind.i64.wrap ((IntKind.i64.wrap (IntKind.i64.wrap (x_1 - x) - 1)).tdiv 2), ()), (), (), l, ())
noncomputable def Q2x {El : Type} [OrdS El] (N : Nat) :=
 fun (l : List El) (n : Nat) (x x_1 : Int) =>
 bif decide (8 ≤ IntKind.i64.wrap (x_1 - x)) then
  Option.bind (Q22 N (IntKind.i64.wrap (x_1 - x))) fun (y : Int) =>
   iter
    (fun
      (rec :
       (Int × Unit) × ((Int × Unit) × Unit) × Unit × List El × Unit →
        Option (List El × Unit))
      (z : (Int × Unit) × ((Int × Unit) × Unit) × Unit × List El × Unit) =>
     bif
       decide
        (z.1.1 ≤
         IntKind.i64.wrap
          (IntKind.i64.wrap
            (x + IntKind.i64.wrap (IntKind.i64.wrap ((IntKind.i64.wrap (x_1 - x)).tdiv 4) * 2)) +
           1)) then
      Option.bind (Q3x N z.2.1.1.1)
       fun (y_1 : (Int × Unit) × ((Int × Unit) × Unit) × Unit × Unit) =>
       Qj
        (fun (z_1 : (Int × Unit) × Unit × Unit × Unit) =>
         bif
           decide (0 ≤ IntKind.i64.wrap (x + z_1.1.1)) &&
            decide (IntKind.i64.wrap (x + z_1.1.1) < (↑n : Int)) then
          z.2.2.2.1[0 + (IntKind.i64.wrap (x + z_1.1.1)).toNat]?.bind fun (e : El) =>
           bif decide (0 ≤ z.1.1) && decide (z.1.1 < (↑n : Int)) then
            z.2.2.2.1[0 + z.1.1.toNat]?.bind fun (e_1 : El) =>
             bif decide (0 ≤ z.1.1) && decide (z.1.1 < (↑n : Int)) then
              z.2.2.2.1[0 + z.1.1.toNat]?.bind fun (e_2 : El) =>
               bif
                 decide (0 ≤ IntKind.i64.wrap (x + z_1.1.1)) &&
                  decide (IntKind.i64.wrap (x + z_1.1.1) < (↑n : Int)) then
                (z.2.2.2.1.set (0 + z.1.1.toNat)
                    e)[0 + (IntKind.i64.wrap (x + z_1.1.1)).toNat]?.bind
                 fun (e_3 : El) =>
                 rec
                  ((IntKind.i64.wrap (z.1.1 + 1), ()), ((y_1.2.1.1.1, ()), ()), (),
                   (z.2.2.2.1.set (0 + z.1.1.toNat) e).set
                    (0 + (IntKind.i64.wrap (x + z_1.1.1)).toNat) e_1,
                   ())
               else none
             else none
           else none
         else none)
        fun (k : (Int × Unit) × Unit × Unit × Unit → Option (List El × Unit)) =>
        bif
          decide
           (IntKind.i64.wrap (x_1 - x) ≤
            IntKind.i64.wrap (bits BinOp.and IntKind.u64 y_1.1.1 (IntKind.u64.wrap (y - 1)))) then
         k
          ((IntKind.i64.wrap
             (IntKind.i64.wrap (bits BinOp.and IntKind.u64 y_1.1.1 (IntKind.u64.wrap (y - 1))) -
              IntKind.i64.wrap (x_1 - x)),
            ()),
           (), (), ())
        else
         k
          ((IntKind.i64.wrap (bits BinOp.and IntKind.u64 y_1.1.1 (IntKind.u64.wrap (y - 1))), ()), (), (),
           ())
     else some (z.2.2.2.1, ()))
    N
    ((IntKind.i64.wrap
       (IntKind.i64.wrap (x + IntKind.i64.wrap (IntKind.i64.wrap ((IntKind.i64.wrap (x_1 - x)).tdiv 4) * 2)) -
        1),
      ()),
     ((IntKind.u64.wrap (IntKind.i64.wrap (x_1 - x)), ()), ()), (), l, ())
 else some (l, ())
noncomputable def Q8c {El : Type} [OrdS El] (N : Nat) :=
 fun (n : Nat) (y y_1 y_2 : Int) (l : List El) =>
 bif decide (0 ≤ y_1) && decide (y_1 < (↑n : Int)) then
  l[0 + y_1.toNat]?.bind fun (e : El) =>
   bif decide (0 ≤ y) && decide (y < (↑n : Int)) then
    l[0 + y.toNat]?.bind fun (e_1 : El) =>
     Option.bind (OrdS.L e e_1) fun (y_3 : Bool) =>
      bif y_3 then some ((y_1, y, ()), ((IntKind.i64.wrap (y_2 + 1), ()), ()), (), ())
      else some ((y, y_1, ()), ((y_2, ()), ()), (), ())
   else none
 else none
noncomputable def Q8x {El : Type} [OrdS El] (N : Nat) :=
 fun (n : Nat) (y y_1 y_2 y_3 : Int) (l : List El) =>
 Option.bind (Q8c N n y y_1 y_3 l)
  fun (y : (Int × Int × Unit) × ((Int × Unit) × Unit) × Unit × Unit) =>
  Option.bind (Q8c N n y.1.2.1 y_2 y.2.1.1.1 l)
   fun (y_4 : (Int × Int × Unit) × ((Int × Unit) × Unit) × Unit × Unit) =>
   Option.bind (Q8c N n y.1.1 y_4.1.1 y_4.2.1.1.1 l)
    fun (y : (Int × Int × Unit) × ((Int × Unit) × Unit) × Unit × Unit) =>
    some ((y.1.2.1, ()), ((y.2.1.1.1, ()), ()), (), ())
noncomputable def Q1t {El : Type} [OrdS El] (N : Nat) :=
 fun (n : Nat) (y y_1 : Int) (l : List El) =>
 Option.bind (Q8x N n (IntKind.i64.wrap (y - 1)) y (IntKind.i64.wrap (y + 1)) y_1 l)
  fun (y : (Int × Unit) × ((Int × Unit) × Unit) × Unit × Unit) =>
  some ((y.1.1, ()), ((y.2.1.1.1, ()), ()), (), ())
noncomputable def Q61 {El : Type} [OrdS El] (N : Nat) :=
 fun (l : List El) (n : Nat) (x x_1 : Int) =>
 Qj
  (fun (z : (Int × Unit) × ((Int × Unit) × Unit) × Unit × List El × Unit) =>
   bif z.2.1.1.1 == 0 then some (z.2.2.2.1, z.1.1, 1)
   else
    bif z.2.1.1.1 == 12 then some (z.2.2.2.1, z.1.1, 2)
    else some (z.2.2.2.1, z.1.1, 0))
  fun
   (k :
    (Int × Unit) × ((Int × Unit) × Unit) × Unit × List El × Unit →
     Option (List El × Int × Int)) =>
  bif decide (8 ≤ IntKind.i64.wrap (x_1 - x)) then
   bif decide (50 ≤ IntKind.i64.wrap (x_1 - x)) then
    Option.bind
     (Q1t N n
      (IntKind.i64.wrap (x + IntKind.i64.wrap (IntKind.i64.wrap ((IntKind.i64.wrap (x_1 - x)).tdiv 4) * 1))) 0 l)
     fun (y : (Int × Unit) × ((Int × Unit) × Unit) × Unit × Unit) =>
     Option.bind
      (Q1t N n
       (IntKind.i64.wrap (x + IntKind.i64.wrap (IntKind.i64.wrap ((IntKind.i64.wrap (x_1 - x)).tdiv 4) * 2)))
       y.2.1.1.1 l)
      fun (y_1 : (Int × Unit) × ((Int × Unit) × Unit) × Unit × Unit) =>
      Option.bind
       (Q1t N n
        (IntKind.i64.wrap (x + IntKind.i64.wrap (IntKind.i64.wrap ((IntKind.i64.wrap (x_1 - x)).tdiv 4) * 3)))
        y_1.2.1.1.1 l)
       fun (y_2 : (Int × Unit) × ((Int × Unit) × Unit) × Unit × Unit) =>
       Option.bind (Q8x N n y.1.1 y_1.1.1 y_2.1.1 y_2.2.1.1.1 l)
        fun (y : (Int × Unit) × ((Int × Unit) × Unit) × Unit × Unit) =>
        k ((y.1.1, ()), ((y.2.1.1.1, ()), ()), (), l, ())
   else
    Option.bind
     (Q8x N n
      (IntKind.i64.wrap (x + IntKind.i64.wrap (IntKind.i64.wrap ((IntKind.i64.wrap (x_1 - x)).tdiv 4) * 1)))
      (IntKind.i64.wrap (x + IntKind.i64.wrap (IntKind.i64.wrap ((IntKind.i64.wrap (x_1 - x)).tdiv 4) * 2)))
      (IntKind.i64.wrap (x + IntKind.i64.wrap (IntKind.i64.wrap ((IntKind.i64.wrap (x_1 - x)).tdiv 4) * 3))) 0 l)
     fun (y : (Int × Unit) × ((Int × Unit) × Unit) × Unit × Unit) =>
     k ((y.1.1, ()), ((y.2.1.1.1, ()), ()), (), l, ())
  else
   k
    ((IntKind.i64.wrap (x + IntKind.i64.wrap (IntKind.i64.wrap ((IntKind.i64.wrap (x_1 - x)).tdiv 4) * 2)), ()),
     ((0, ()), ()), (), l, ())
noncomputable def Q3h {El : Type} [OrdS El] (N : Nat) :=
 fun (l : List El) (n : Nat) (x x_1 : Int) =>
 iter
  (fun (rec : (Int × Int × Unit) × Unit × Unit × List El × Unit → Option (List El × Unit))
    (z : (Int × Int × Unit) × Unit × Unit × List El × Unit) =>
   bif decide (z.1.1 < z.1.2.1) then
    bif decide (0 ≤ z.1.2.1) && decide (z.1.2.1 < (↑n : Int)) then
     z.2.2.2.1[0 + z.1.2.1.toNat]?.bind fun (e : El) =>
      bif decide (0 ≤ z.1.1) && decide (z.1.1 < (↑n : Int)) then
       z.2.2.2.1[0 + z.1.1.toNat]?.bind fun (e_1 : El) =>
        bif decide (0 ≤ z.1.1) && decide (z.1.1 < (↑n : Int)) then
         z.2.2.2.1[0 + z.1.1.toNat]?.bind fun (e_2 : El) =>
          bif decide (0 ≤ z.1.2.1) && decide (z.1.2.1 < (↑n : Int)) then
           (z.2.2.2.1.set (0 + z.1.1.toNat) e)[0 + z.1.2.1.toNat]?.bind
            fun (e_3 : El) =>
            rec
             ((IntKind.i64.wrap (z.1.1 + 1), IntKind.i64.wrap (z.1.2.1 - 1), ()), (), (),
              (z.2.2.2.1.set (0 + z.1.1.toNat) e).set (0 + z.1.2.1.toNat) e_1, ())
          else none
        else none
      else none
    else none
   else some (z.2.2.2.1, ()))
  N ((x, IntKind.i64.wrap (x_1 - 1), ()), (), (), l, ())
noncomputable def Q1j {El : Type} [OrdS El] (N : Nat) :=
 fun (l : List El) (n : Nat) (x x_1 : Int) =>
 iter
  (fun (rec : (Int × Int × Unit) × Unit × Unit × List El × Unit → Option (List El × Bool))
    (z : (Int × Int × Unit) × Unit × Unit × List El × Unit) =>
   bif decide (z.1.2.1 < 5) then
    Qj
     (fun (z_1 : (Int × Unit) × Unit × Unit × Unit) =>
      bif z_1.1.1 == x_1 then some (z.2.2.2.1, true)
      else
       bif decide (IntKind.i64.wrap (x_1 - x) < 50) then some (z.2.2.2.1, false)
       else
        bif
          decide (0 ≤ IntKind.i64.wrap (z_1.1.1 - 1)) &&
           decide (IntKind.i64.wrap (z_1.1.1 - 1) < (↑n : Int)) then
         z.2.2.2.1[0 + (IntKind.i64.wrap (z_1.1.1 - 1)).toNat]?.bind fun (e : El) =>
          bif decide (0 ≤ z_1.1.1) && decide (z_1.1.1 < (↑n : Int)) then
           z.2.2.2.1[0 + z_1.1.1.toNat]?.bind fun (e_1 : El) =>
            bif decide (0 ≤ z_1.1.1) && decide (z_1.1.1 < (↑n : Int)) then
             z.2.2.2.1[0 + z_1.1.1.toNat]?.bind fun (e_2 : El) =>
              bif
                decide (0 ≤ IntKind.i64.wrap (z_1.1.1 - 1)) &&
                 decide (IntKind.i64.wrap (z_1.1.1 - 1) < (↑n : Int)) then
               (z.2.2.2.1.set (0 + z_1.1.1.toNat)
                   e)[0 + (IntKind.i64.wrap (z_1.1.1 - 1)).toNat]?.bind
                fun (e_3 : El) =>
                Qj
                 (fun (z_2 : Unit × Unit × Unit × List El × Unit) =>
                  bif decide (2 ≤ IntKind.i64.wrap (x_1 - z_1.1.1)) then
                   iter
                    (fun
                      (rec_1 :
                       (Int × Unit) × Unit × Unit × List El × Unit →
                        Option (List El × Bool))
                      (z_3 : (Int × Unit) × Unit × Unit × List El × Unit) =>
                     bif decide (z_3.1.1 < x_1) then
                      bif decide (0 ≤ z_3.1.1) && decide (z_3.1.1 < (↑n : Int)) then
                       z_3.2.2.2.1[0 + z_3.1.1.toNat]?.bind fun (e : El) =>
                        bif
                          decide (0 ≤ IntKind.i64.wrap (z_3.1.1 - 1)) &&
                           decide (IntKind.i64.wrap (z_3.1.1 - 1) < (↑n : Int)) then
                         z_3.2.2.2.1[0 +
                             (IntKind.i64.wrap (z_3.1.1 - 1)).toNat]?.bind
                          fun (e_4 : El) =>
                          Option.bind (OrdS.L e e_4) fun (y : Bool) =>
                           bif !y then
                            rec
                             ((z_1.1.1, IntKind.i64.wrap (z.1.2.1 + 1), ()), (),
                              (), z_3.2.2.2.1, ())
                           else
                            bif
                              decide (0 ≤ IntKind.i64.wrap (z_3.1.1 - 1)) &&
                               decide
                                (IntKind.i64.wrap (z_3.1.1 - 1) < (↑n : Int)) then
                             z_3.2.2.2.1[0 +
                                 (IntKind.i64.wrap (z_3.1.1 - 1)).toNat]?.bind
                              fun (e : El) =>
                              bif
                                decide (0 ≤ z_3.1.1) &&
                                 decide (z_3.1.1 < (↑n : Int)) then
                               z_3.2.2.2.1[0 + z_3.1.1.toNat]?.bind
                                fun (e_5 : El) =>
                                bif
                                  decide (0 ≤ z_3.1.1) &&
                                   decide (z_3.1.1 < (↑n : Int)) then
                                 z_3.2.2.2.1[0 + z_3.1.1.toNat]?.bind
                                  fun (e_6 : El) =>
                                  bif
                                    decide
                                      (0 ≤ IntKind.i64.wrap (z_3.1.1 - 1)) &&
                                     decide
                                      (IntKind.i64.wrap (z_3.1.1 - 1) <
                                       (↑n : Int)) then
                                   (z_3.2.2.2.1.set (0 + z_3.1.1.toNat)
                                       e)[0 +
                                       (IntKind.i64.wrap
                                         (z_3.1.1 - 1)).toNat]?.bind
                                    fun (e_7 : El) =>
                                    rec_1
                                     ((IntKind.i64.wrap (z_3.1.1 + 1), ()), (),
                                      (),
                                      (z_3.2.2.2.1.set
                                         (0 + z_3.1.1.toNat) e).set
                                       (0 +
                                        (IntKind.i64.wrap
                                          (z_3.1.1 - 1)).toNat)
                                       e_5,
                                      ())
                                  else none
                                else none
                              else none
                            else none
                        else none
                      else none
                     else
                      rec
                       ((z_1.1.1, IntKind.i64.wrap (z.1.2.1 + 1), ()), (), (),
                        z_3.2.2.2.1, ()))
                    N ((IntKind.i64.wrap (z_1.1.1 + 1), ()), (), (), z_2.2.2.2.1, ())
                  else
                   rec
                    ((z_1.1.1, IntKind.i64.wrap (z.1.2.1 + 1), ()), (), (),
                     z_2.2.2.2.1, ()))
                 fun
                  (k :
                   Unit × Unit × Unit × List El × Unit →
                    Option (List El × Bool)) =>
                 bif decide (2 ≤ IntKind.i64.wrap (z_1.1.1 - x)) then
                  iter
                   (fun
                     (rec :
                      (Int × Unit) × Unit × Unit × List El × Unit →
                       Option (List El × Bool))
                     (z : (Int × Unit) × Unit × Unit × List El × Unit) =>
                    bif decide (1 ≤ z.1.1) then
                     bif decide (0 ≤ z.1.1) && decide (z.1.1 < (↑n : Int)) then
                      z.2.2.2.1[0 + z.1.1.toNat]?.bind fun (e : El) =>
                       bif
                         decide (0 ≤ IntKind.i64.wrap (z.1.1 - 1)) &&
                          decide (IntKind.i64.wrap (z.1.1 - 1) < (↑n : Int)) then
                        z.2.2.2.1[0 + (IntKind.i64.wrap (z.1.1 - 1)).toNat]?.bind
                         fun (e_4 : El) =>
                         Option.bind (OrdS.L e e_4) fun (y : Bool) =>
                          bif !y then k ((), (), (), z.2.2.2.1, ())
                          else
                           bif
                             decide (0 ≤ IntKind.i64.wrap (z.1.1 - 1)) &&
                              decide (IntKind.i64.wrap (z.1.1 - 1) < (↑n : Int)) then
                            z.2.2.2.1[0 +
                                (IntKind.i64.wrap (z.1.1 - 1)).toNat]?.bind
                             fun (e : El) =>
                             bif
                               decide (0 ≤ z.1.1) &&
                                decide (z.1.1 < (↑n : Int)) then
                              z.2.2.2.1[0 + z.1.1.toNat]?.bind
                               fun (e_5 : El) =>
                               bif
                                 decide (0 ≤ z.1.1) &&
                                  decide (z.1.1 < (↑n : Int)) then
                                z.2.2.2.1[0 + z.1.1.toNat]?.bind
                                 fun (e_6 : El) =>
                                 bif
                                   decide (0 ≤ IntKind.i64.wrap (z.1.1 - 1)) &&
                                    decide
                                     (IntKind.i64.wrap (z.1.1 - 1) <
                                      (↑n : Int)) then
                                  (z.2.2.2.1.set (0 + z.1.1.toNat)
                                      e)[0 +
                                      (IntKind.i64.wrap
                                        (z.1.1 - 1)).toNat]?.bind
                                   fun (e_7 : El) =>
                                   rec
                                    ((IntKind.i64.wrap (z.1.1 - 1), ()), (), (),
                                     (z.2.2.2.1.set (0 + z.1.1.toNat)
                                        e).set
                                      (0 +
                                       (IntKind.i64.wrap (z.1.1 - 1)).toNat)
                                      e_5,
                                     ())
                                 else none
                               else none
                             else none
                           else none
                       else none
                     else none
                    else k ((), (), (), z.2.2.2.1, ()))
                   N
                   ((IntKind.i64.wrap (z_1.1.1 - 1), ()), (), (),
                    (z.2.2.2.1.set (0 + z_1.1.1.toNat) e).set
                     (0 + (IntKind.i64.wrap (z_1.1.1 - 1)).toNat) e_1,
                    ())
                 else
                  k
                   ((), (), (),
                    (z.2.2.2.1.set (0 + z_1.1.1.toNat) e).set
                     (0 + (IntKind.i64.wrap (z_1.1.1 - 1)).toNat) e_1,
                    ())
              else none
            else none
          else none
        else none)
     fun (k : (Int × Unit) × Unit × Unit × Unit → Option (List El × Bool)) =>
     iter
      (fun (rec : (Int × Unit) × Unit × Unit × Unit → Option (List El × Bool))
        (z_1 : (Int × Unit) × Unit × Unit × Unit) =>
       bif decide (z_1.1.1 < x_1) then
        bif decide (0 ≤ z_1.1.1) && decide (z_1.1.1 < (↑n : Int)) then
         z.2.2.2.1[0 + z_1.1.1.toNat]?.bind fun (e : El) =>
          bif
            decide (0 ≤ IntKind.i64.wrap (z_1.1.1 - 1)) &&
             decide (IntKind.i64.wrap (z_1.1.1 - 1) < (↑n : Int)) then
           z.2.2.2.1[0 + (IntKind.i64.wrap (z_1.1.1 - 1)).toNat]?.bind fun (e_1 : El) =>
            Option.bind (OrdS.L e e_1) fun (y : Bool) =>
             bif !y then rec ((IntKind.i64.wrap (z_1.1.1 + 1), ()), (), (), ())
             else k ((z_1.1.1, ()), (), (), ())
          else none
        else none
       else k ((z_1.1.1, ()), (), (), ()))
      N ((z.1.1, ()), (), (), ())
   else some (z.2.2.2.1, false))
  N ((IntKind.i64.wrap (x + 1), 0, ()), (), (), l, ())
noncomputable def Q3g {El : Type} [OrdS El] (N : Nat) :=
 fun (l : List El) (n : Nat) (x x_1 x_2 : Int) =>
 bif decide (0 ≤ x_2) && decide (x_2 < (↑n : Int)) then
  l[0 + x_2.toNat]?.bind fun (e : El) =>
   bif decide (0 ≤ x) && decide (x < (↑n : Int)) then
    l[0 + x.toNat]?.bind fun (e_1 : El) =>
     bif decide (0 ≤ x) && decide (x < (↑n : Int)) then
      l[0 + x.toNat]?.bind fun (e_2 : El) =>
       bif decide (0 ≤ x_2) && decide (x_2 < (↑n : Int)) then
        (l.set (0 + x.toNat) e)[0 + x_2.toNat]?.bind fun (e_3 : El) =>
         iter
          (fun
            (rec :
             (Int × Int × Unit) × Unit × Unit × List El × Unit →
              Option (List El × Int))
            (z : (Int × Int × Unit) × Unit × Unit × List El × Unit) =>
           Qj
            (fun (z_1 : (Int × Unit) × Unit × Unit × Unit) =>
             Qj
              (fun (z_2 : (Int × Unit) × Unit × Unit × Unit) =>
               bif decide (z_2.1.1 < z_1.1.1) then some (z.2.2.2.1, z_1.1.1)
               else
                bif decide (0 ≤ z_2.1.1) && decide (z_2.1.1 < (↑n : Int)) then
                 z.2.2.2.1[0 + z_2.1.1.toNat]?.bind fun (e : El) =>
                  bif decide (0 ≤ z_1.1.1) && decide (z_1.1.1 < (↑n : Int)) then
                   z.2.2.2.1[0 + z_1.1.1.toNat]?.bind fun (e_4 : El) =>
                    bif decide (0 ≤ z_1.1.1) && decide (z_1.1.1 < (↑n : Int)) then
                     z.2.2.2.1[0 + z_1.1.1.toNat]?.bind fun (e_5 : El) =>
                      bif decide (0 ≤ z_2.1.1) && decide (z_2.1.1 < (↑n : Int)) then
                       (z.2.2.2.1.set (0 + z_1.1.1.toNat)
                           e)[0 + z_2.1.1.toNat]?.bind
                        fun (e_6 : El) =>
                        rec
                         ((IntKind.i64.wrap (z_1.1.1 + 1),
                           IntKind.i64.wrap (z_2.1.1 - 1), ()),
                          (), (),
                          (z.2.2.2.1.set (0 + z_1.1.1.toNat) e).set
                           (0 + z_2.1.1.toNat) e_4,
                          ())
                      else none
                    else none
                  else none
                else none)
              fun (k : (Int × Unit) × Unit × Unit × Unit → Option (List El × Int)) =>
              iter
               (fun (rec : (Int × Unit) × Unit × Unit × Unit → Option (List El × Int))
                 (z_2 : (Int × Unit) × Unit × Unit × Unit) =>
                bif decide (z_1.1.1 ≤ z_2.1.1) then
                 bif decide (0 ≤ x) && decide (x < (↑n : Int)) then
                  z.2.2.2.1[0 + x.toNat]?.bind fun (e : El) =>
                   bif decide (0 ≤ z_2.1.1) && decide (z_2.1.1 < (↑n : Int)) then
                    z.2.2.2.1[0 + z_2.1.1.toNat]?.bind fun (e_4 : El) =>
                     Option.bind (OrdS.L e e_4) fun (y : Bool) =>
                      bif y then rec ((IntKind.i64.wrap (z_2.1.1 - 1), ()), (), (), ())
                      else k ((z_2.1.1, ()), (), (), ())
                   else none
                 else none
                else k ((z_2.1.1, ()), (), (), ()))
               N ((z.1.2.1, ()), (), (), ()))
            fun (k : (Int × Unit) × Unit × Unit × Unit → Option (List El × Int)) =>
            iter
             (fun (rec : (Int × Unit) × Unit × Unit × Unit → Option (List El × Int))
               (z_1 : (Int × Unit) × Unit × Unit × Unit) =>
              bif decide (z_1.1.1 ≤ z.1.2.1) then
               bif decide (0 ≤ x) && decide (x < (↑n : Int)) then
                z.2.2.2.1[0 + x.toNat]?.bind fun (e : El) =>
                 bif decide (0 ≤ z_1.1.1) && decide (z_1.1.1 < (↑n : Int)) then
                  z.2.2.2.1[0 + z_1.1.1.toNat]?.bind fun (e_4 : El) =>
                   Option.bind (OrdS.L e e_4) fun (y : Bool) =>
                    bif !y then rec ((IntKind.i64.wrap (z_1.1.1 + 1), ()), (), (), ())
                    else k ((z_1.1.1, ()), (), (), ())
                 else none
               else none
              else k ((z_1.1.1, ()), (), (), ()))
             N ((z.1.1, ()), (), (), ()))
          N
          ((IntKind.i64.wrap (x + 1), IntKind.i64.wrap (x_1 - 1), ()), (), (),
           (l.set (0 + x.toNat) e).set (0 + x_2.toNat) e_1, ())
       else none
     else none
   else none
 else none
noncomputable def Q5b {El : Type} [OrdS El] (N : Nat) :=
 fun (l : List El) (n : Nat) (x x_1 x_2 : Int) =>
 bif decide (0 ≤ x_2) && decide (x_2 < (↑n : Int)) then
  l[0 + x_2.toNat]?.bind fun (e : El) =>
   bif decide (0 ≤ x) && decide (x < (↑n : Int)) then
    l[0 + x.toNat]?.bind fun (e_1 : El) =>
     bif decide (0 ≤ x) && decide (x < (↑n : Int)) then
      l[0 + x.toNat]?.bind fun (e_2 : El) =>
       bif decide (0 ≤ x_2) && decide (x_2 < (↑n : Int)) then
        (l.set (0 + x.toNat) e)[0 + x_2.toNat]?.bind fun (e_3 : El) =>
         Qj
          (fun (z : (Int × Unit) × Unit × Unit × Unit) =>
           Qj
            (fun (z_1 : (Int × Unit) × Unit × Unit × Unit) =>
             bif decide (z_1.1.1 < z.1.1) then
              bif decide (0 ≤ x) && decide (x < (↑n : Int)) then
               ((l.set (0 + x.toNat) e).set (0 + x_2.toNat) e_1)[0 + x.toNat]?.bind
                fun (e_4 : El) =>
                bif decide (0 ≤ z_1.1.1) && decide (z_1.1.1 < (↑n : Int)) then
                 ((l.set (0 + x.toNat) e).set (0 + x_2.toNat) e_1)[0 + z_1.1.1.toNat]?.bind
                  fun (e_5 : El) =>
                  bif decide (0 ≤ z_1.1.1) && decide (z_1.1.1 < (↑n : Int)) then
                   ((l.set (0 + x.toNat) e).set (0 + x_2.toNat) e_1)[0 + z_1.1.1.toNat]?.bind
                    fun (e_6 : El) =>
                    bif decide (0 ≤ x) && decide (x < (↑n : Int)) then
                     (((l.set (0 + x.toNat) e).set (0 + x_2.toNat) e_1).set (0 + z_1.1.1.toNat)
                         e_4)[0 + x.toNat]?.bind
                      fun (e_7 : El) =>
                      some
                       ((((l.set (0 + x.toNat) e).set (0 + x_2.toNat) e_1).set
                           (0 + z_1.1.1.toNat) e_4).set
                         (0 + x.toNat) e_5,
                        z_1.1.1, true)
                    else none
                  else none
                else none
              else none
             else
              bif decide (0 ≤ z_1.1.1) && decide (z_1.1.1 < (↑n : Int)) then
               ((l.set (0 + x.toNat) e).set (0 + x_2.toNat) e_1)[0 + z_1.1.1.toNat]?.bind
                fun (e_4 : El) =>
                bif decide (0 ≤ z.1.1) && decide (z.1.1 < (↑n : Int)) then
                 ((l.set (0 + x.toNat) e).set (0 + x_2.toNat) e_1)[0 + z.1.1.toNat]?.bind
                  fun (e_5 : El) =>
                  bif decide (0 ≤ z.1.1) && decide (z.1.1 < (↑n : Int)) then
                   ((l.set (0 + x.toNat) e).set (0 + x_2.toNat) e_1)[0 + z.1.1.toNat]?.bind
                    fun (e_6 : El) =>
                    bif decide (0 ≤ z_1.1.1) && decide (z_1.1.1 < (↑n : Int)) then
                     (((l.set (0 + x.toNat) e).set (0 + x_2.toNat) e_1).set (0 + z.1.1.toNat)
                         e_4)[0 + z_1.1.1.toNat]?.bind
                      fun (e_7 : El) =>
                      Qj
                       (fun (z : (Int × Unit) × Unit × Unit × List El × Unit) =>
                        bif decide (0 ≤ x) && decide (x < (↑n : Int)) then
                         z.2.2.2.1[0 + x.toNat]?.bind fun (e : El) =>
                          bif decide (0 ≤ z.1.1) && decide (z.1.1 < (↑n : Int)) then
                           z.2.2.2.1[0 + z.1.1.toNat]?.bind
                            fun (e_8 : El) =>
                            bif
                              decide (0 ≤ z.1.1) &&
                               decide (z.1.1 < (↑n : Int)) then
                             z.2.2.2.1[0 + z.1.1.toNat]?.bind
                              fun (e_9 : El) =>
                              bif decide (0 ≤ x) && decide (x < (↑n : Int)) then
                               (z.2.2.2.1.set (0 + z.1.1.toNat)
                                   e)[0 + x.toNat]?.bind
                                fun (e_10 : El) =>
                                some
                                 ((z.2.2.2.1.set (0 + z.1.1.toNat) e).set
                                   (0 + x.toNat) e_8,
                                  z.1.1, false)
                              else none
                            else none
                          else none
                        else none)
                       fun
                        (k :
                         (Int × Unit) × Unit × Unit × List El × Unit →
                          Option (List El × Int × Bool)) =>
                       iter
                        (fun
                          (rec :
                           (Int × Int × Unit) × Unit × Unit × List El × Unit →
                            Option (List El × Int × Bool))
                          (z :
                           (Int × Int × Unit) ×
                            Unit × Unit × List El × Unit) =>
                         Qj
                          (fun (z_2 : (Int × Unit) × Unit × Unit × Unit) =>
                           Qj
                            (fun (z_3 : (Int × Unit) × Unit × Unit × Unit) =>
                             bif decide (z_3.1.1 < z_2.1.1) then
                              k ((z_3.1.1, ()), (), (), z.2.2.2.1, ())
                             else
                              bif
                                decide (0 ≤ z_3.1.1) &&
                                 decide (z_3.1.1 < (↑n : Int)) then
                               z.2.2.2.1[0 + z_3.1.1.toNat]?.bind
                                fun (e : El) =>
                                bif
                                  decide (0 ≤ z_2.1.1) &&
                                   decide (z_2.1.1 < (↑n : Int)) then
                                 z.2.2.2.1[0 + z_2.1.1.toNat]?.bind
                                  fun (e_8 : El) =>
                                  bif
                                    decide (0 ≤ z_2.1.1) &&
                                     decide (z_2.1.1 < (↑n : Int)) then
                                   z.2.2.2.1[0 + z_2.1.1.toNat]?.bind
                                    fun (e_9 : El) =>
                                    bif
                                      decide (0 ≤ z_3.1.1) &&
                                       decide (z_3.1.1 < (↑n : Int)) then
                                     (z.2.2.2.1.set (0 + z_2.1.1.toNat)
                                         e)[0 + z_3.1.1.toNat]?.bind
                                      fun (e_10 : El) =>
                                      rec
                                       ((IntKind.i64.wrap (z_2.1.1 + 1),
                                         IntKind.i64.wrap (z_3.1.1 - 1),
                                         ()),
                                        (), (),
                                        (z.2.2.2.1.set
                                           (0 + z_2.1.1.toNat) e).set
                                         (0 + z_3.1.1.toNat) e_8,
                                        ())
                                    else none
                                  else none
                                else none
                              else none)
                            fun
                             (k :
                              (Int × Unit) × Unit × Unit × Unit →
                               Option (List El × Int × Bool)) =>
                            iter
                             (fun
                               (rec :
                                (Int × Unit) × Unit × Unit × Unit →
                                 Option (List El × Int × Bool))
                               (z_3 : (Int × Unit) × Unit × Unit × Unit) =>
                              bif decide (z_2.1.1 ≤ z_3.1.1) then
                               bif
                                 decide (0 ≤ z_3.1.1) &&
                                  decide (z_3.1.1 < (↑n : Int)) then
                                z.2.2.2.1[0 + z_3.1.1.toNat]?.bind
                                 fun (e : El) =>
                                 bif decide (0 ≤ x) && decide (x < (↑n : Int)) then
                                  z.2.2.2.1[0 + x.toNat]?.bind
                                   fun (e_8 : El) =>
                                   Option.bind (OrdS.L e e_8)
                                    fun (y : Bool) =>
                                    bif !y then
                                     rec
                                      ((IntKind.i64.wrap (z_3.1.1 - 1), ()),
                                       (), (), ())
                                    else k ((z_3.1.1, ()), (), (), ())
                                 else none
                               else none
                              else k ((z_3.1.1, ()), (), (), ()))
                             N ((z.1.2.1, ()), (), (), ()))
                          fun
                           (k :
                            (Int × Unit) × Unit × Unit × Unit →
                             Option (List El × Int × Bool)) =>
                          iter
                           (fun
                             (rec :
                              (Int × Unit) × Unit × Unit × Unit →
                               Option (List El × Int × Bool))
                             (z_2 : (Int × Unit) × Unit × Unit × Unit) =>
                            bif decide (z_2.1.1 ≤ z.1.2.1) then
                             bif
                               decide (0 ≤ z_2.1.1) &&
                                decide (z_2.1.1 < (↑n : Int)) then
                              z.2.2.2.1[0 + z_2.1.1.toNat]?.bind
                               fun (e : El) =>
                               bif decide (0 ≤ x) && decide (x < (↑n : Int)) then
                                z.2.2.2.1[0 + x.toNat]?.bind
                                 fun (e_8 : El) =>
                                 Option.bind (OrdS.L e e_8)
                                  fun (y : Bool) =>
                                  bif y then
                                   rec
                                    ((IntKind.i64.wrap (z_2.1.1 + 1), ()), (),
                                     (), ())
                                  else k ((z_2.1.1, ()), (), (), ())
                               else none
                             else none
                            else k ((z_2.1.1, ()), (), (), ()))
                           N ((z.1.1, ()), (), (), ()))
                        N
                        ((IntKind.i64.wrap (z.1.1 + 1), IntKind.i64.wrap (z_1.1.1 - 1),
                          ()),
                         (), (),
                         (((l.set (0 + x.toNat) e).set (0 + x_2.toNat) e_1).set
                            (0 + z.1.1.toNat) e_4).set
                          (0 + z_1.1.1.toNat) e_5,
                         ())
                    else none
                  else none
                else none
              else none)
            fun (k : (Int × Unit) × Unit × Unit × Unit → Option (List El × Int × Bool)) =>
            iter
             (fun (rec : (Int × Unit) × Unit × Unit × Unit → Option (List El × Int × Bool))
               (z_1 : (Int × Unit) × Unit × Unit × Unit) =>
              bif decide (z.1.1 ≤ z_1.1.1) then
               bif decide (0 ≤ z_1.1.1) && decide (z_1.1.1 < (↑n : Int)) then
                ((l.set (0 + x.toNat) e).set (0 + x_2.toNat) e_1)[0 + z_1.1.1.toNat]?.bind
                 fun (e_4 : El) =>
                 bif decide (0 ≤ x) && decide (x < (↑n : Int)) then
                  ((l.set (0 + x.toNat) e).set (0 + x_2.toNat) e_1)[0 + x.toNat]?.bind
                   fun (e : El) =>
                   Option.bind (OrdS.L e_4 e) fun (y : Bool) =>
                    bif !y then rec ((IntKind.i64.wrap (z_1.1.1 - 1), ()), (), (), ())
                    else k ((z_1.1.1, ()), (), (), ())
                 else none
               else none
              else k ((z_1.1.1, ()), (), (), ()))
             N ((IntKind.i64.wrap (x_1 - 1), ()), (), (), ()))
          fun (k : (Int × Unit) × Unit × Unit × Unit → Option (List El × Int × Bool)) =>
          iter
           (fun (rec : (Int × Unit) × Unit × Unit × Unit → Option (List El × Int × Bool))
             (z : (Int × Unit) × Unit × Unit × Unit) =>
            bif decide (z.1.1 ≤ IntKind.i64.wrap (x_1 - 1)) then
             bif decide (0 ≤ z.1.1) && decide (z.1.1 < (↑n : Int)) then
              ((l.set (0 + x.toNat) e).set (0 + x_2.toNat) e_1)[0 + z.1.1.toNat]?.bind
               fun (e_4 : El) =>
               bif decide (0 ≤ x) && decide (x < (↑n : Int)) then
                ((l.set (0 + x.toNat) e).set (0 + x_2.toNat) e_1)[0 + x.toNat]?.bind
                 fun (e : El) =>
                 Option.bind (OrdS.L e_4 e) fun (y : Bool) =>
                  bif y then rec ((IntKind.i64.wrap (z.1.1 + 1), ()), (), (), ())
                  else k ((z.1.1, ()), (), (), ())
               else none
             else none
            else k ((z.1.1, ()), (), (), ()))
           N ((IntKind.i64.wrap (x + 1), ()), (), (), ())
       else none
     else none
   else none
 else none
noncomputable def Q44 {El : Type} [OrdS El] (N : Nat) := fun (G : List El → Nat → Int → Int → Int → Option (List El × Unit)) (l : List El) (n : Nat) (x x_1 x_2 : Int) => iter (fun (rec : (Int × Int × Int × Bool ×
 Bool × Unit) × Unit × Unit × List El × Unit → Option (List El × Unit)) (z : (Int × Int × Int × Bool × Bool × Unit) × Unit × Unit × List El × Unit) => bif decide (IntKind.i64.wrap (z.1.2.1 - z.1.1) ≤ 12) then
 Option.bind (Q4q N z.2.2.2.1 n z.1.1 z.1.2.1) fun (y : List El × Unit) => some (y.1, ()) else bif z.1.2.2.1 == 0 then Option.bind (Q9f N z.2.2.2.1 n z.1.1
 z.1.2.1) fun (y : List El × Unit) => some (y.1, ()) else Qj (fun (z_1 : (Int × Unit) × Unit × Unit × List El × Unit) => Option.bind (Q61 N z_1.2.2.2.1 n z.1.1 z.1.2.1) fun (y :
 List El × Int × Int) => Qj (fun (z_2 : (Int × Int × Unit) × Unit × Unit × List El × Unit) => Qj (fun (z_3 : Unit × Unit × Unit × List El × Unit) => bif decide (0 < z.1.1) then bif decide (0 ≤
 IntKind.i64.wrap (z.1.1 - 1)) && decide (IntKind.i64.wrap (z.1.1 - 1) < (↑n : Int)) then z_3.2.2.2.1[0 + (IntKind.i64.wrap (z.1.1 - 1)).toNat]?.bind fun (e : El) => bif decide (0 ≤ z_2.1.1) &&
 decide (z_2.1.1 < (↑n : Int)) then z_3.2.2.2.1[0 + z_2.1.1.toNat]?.bind fun (e_1 : El) => Option.bind (OrdS.L e e_1) fun (y : Bool) => bif !y then Option.bind (Q3g N z_3.2.2.2.1 n
 z.1.1 z.1.2.1 z_2.1.1) fun (y : List El × Int) => rec ((y.2, z.1.2.1, z_1.1.1, z.1.2.2.2.1, z.1.2.2.2.2.1, ()), (), (), y.1, ()) else Option.bind (Q5b N
 z_3.2.2.2.1 n z.1.1 z.1.2.1 z_2.1.1) fun (y : List El × Int × Bool) => bif decide (IntKind.i64.wrap (y.2.1 - z.1.1) < IntKind.i64.wrap (z.1.2.1 - y.2.1)) then (G y.1 n z.1.1
 y.2.1 z_1.1.1).bind fun (y_1 : List El × Unit) => rec ((IntKind.i64.wrap (y.2.1 + 1), z.1.2.1, z_1.1.1, decide (IntKind.i64.wrap ((IntKind.i64.wrap (z.1.2.1 - z.1.1)).tdiv 8) ≤
 IntKind.i64.wrap (y.2.1 - z.1.1)), y.2.2, ()), (), (), y_1.1, ()) else (G y.1 n (IntKind.i64.wrap (y.2.1 + 1)) z.1.2.1 z_1.1.1).bind fun (y_1 : List El × Unit) => rec ((z.1.1,
 y.2.1, z_1.1.1, decide (IntKind.i64.wrap ((IntKind.i64.wrap (z.1.2.1 - z.1.1)).tdiv 8) ≤ IntKind.i64.wrap (z.1.2.1 - y.2.1)), y.2.2, ()), (), (), y_1.1, ()) else none else none else
 Option.bind (Q5b N z_3.2.2.2.1 n z.1.1 z.1.2.1 z_2.1.1) fun (y : List El × Int × Bool) => bif decide (IntKind.i64.wrap (y.2.1 - z.1.1) < IntKind.i64.wrap (z.1.2.1 -
 y.2.1)) then (G y.1 n z.1.1 y.2.1 z_1.1.1).bind fun (y_1 : List El × Unit) => rec ((IntKind.i64.wrap (y.2.1 + 1), z.1.2.1, z_1.1.1, decide (IntKind.i64.wrap ((IntKind.i64.wrap
 (z.1.2.1 - z.1.1)).tdiv 8) ≤ IntKind.i64.wrap (y.2.1 - z.1.1)), y.2.2, ()), (), (), y_1.1, ()) else (G y.1 n (IntKind.i64.wrap (y.2.1 + 1)) z.1.2.1 z_1.1.1).bind fun (y_1 : List
 El × Unit) => rec ((z.1.1, y.2.1, z_1.1.1, decide (IntKind.i64.wrap ((IntKind.i64.wrap (z.1.2.1 - z.1.1)).tdiv 8) ≤ IntKind.i64.wrap (z.1.2.1 - y.2.1)), y.2.2, ()), (), (), y_1.1,
 ())) fun (k : Unit × Unit × Unit × List El × Unit → Option (List El × Unit)) => bif z.1.2.2.2.1 then bif z.1.2.2.2.2.1 then bif z_2.1.2.1 == 1 then Option.bind (Q1j N
 z_2.2.2.2.1 n z.1.1 z.1.2.1) fun (y : List El × Bool) => bif y.2 then some (y.1, ()) else k ((), (), (), y.1, ()) else k ((), (), (), z_2.2.2.2.1, ()) else k ((), (), (),
 z_2.2.2.2.1, ()) else k ((), (), (), z_2.2.2.2.1, ())) fun (k : (Int × Int × Unit) × Unit × Unit × List El × Unit → Option (List El × Unit)) => bif y.2.2 == 2 then Option.bind (Q3h N y.1
 n z.1.1 z.1.2.1) fun (y_1 : List El × Unit) => k ((IntKind.i64.wrap (IntKind.i64.wrap (z.1.2.1 - 1) - IntKind.i64.wrap (y.2.1 - z.1.1)), 1, ()), (), (), y_1.1, ()) else k ((y.2.1,
 y.2.2, ()), (), (), y.1, ())) fun (k : (Int × Unit) × Unit × Unit × List El × Unit → Option (List El × Unit)) => bif !z.1.2.2.2.1 then Option.bind (Q2x N z.2.2.2.1 n z.1.1
 z.1.2.1) fun (y : List El × Unit) => k ((IntKind.i64.wrap (z.1.2.2.1 - 1), ()), (), (), y.1, ()) else k ((z.1.2.2.1, ()), (), (), z.2.2.2.1, ())) N ((x, x_1, x_2, true, true, ()), (), (),
 l, ())
def recG {El : Type} (R : (List El → Nat → Int → Int → Int → Option (List El × Unit)) → List El → Nat → Int → Int → Int → Option (List El × Unit)) : Nat → List El → Nat → Int → Int → Int → Option (List El × Unit)
 | 0 => fun _ _ _ _ _ => none
 | n + 1 => R (recG R n)
noncomputable def Qpz {El : Type} [OrdS El] (N : Nat) : List El → Nat → Int → Int → Int → Option (List El × Unit) := recG (Q44 N) N
noncomputable def Qjc {El : Type} [OrdS El] (N : Nat) :=
 fun (l : List El) (n : Nat) =>
 Option.bind (F_math_bits_Len N (IntKind.u64.wrap (↑n : Int))) fun (y : Int) =>
  Option.bind (Qpz N l n 0 (↑n : Int) y) fun (y : List El × Unit) =>
   some (y.1, ())
end Go.Proofs.Xu
set_option linter.unusedVariables false
set_option linter.unusedSimpArgs false
set_option linter.unusedSectionVars false
set_option maxRecDepth 100000
namespace Go.Proofs.Xu
open Go Go.Xl Go.Ab Go.Proofs Go.Sort
theorem inR' {a n : Nat} (h : a < n) : (decide (0 ≤ (a : Int)) && decide ((a : Int) < (n : Int))) = true := by simp; omega
theorem quarter {a b k : Nat} (h : a ≤ b) (hb : b ≤ 1000000000000) (hk : k ≤ 3) :
  IntKind.i64.wrap ((a : Int) + IntKind.i64.wrap (IntKind.i64.wrap ((IntKind.i64.wrap ((b : Int) - (a : Int))).tdiv 4) * (k : Int))) = ((a + (b - a) / 4 * k : Nat) : Int) := by
 have e1 : IntKind.i64.wrap ((b : Int) - (a : Int)) = ((b - a : Nat) : Int) := by
  rw [show (b : Int) - (a : Int) = ((b - a : Nat) : Int) by omega, Q5h (by omega)]
 have e2 : ((b - a : Nat) : Int).tdiv 4 = (((b - a) / 4 : Nat) : Int) := by
  rw [Int.tdiv_eq_ediv_of_nonneg (by omega)]; omega
 have hm : (b - a) / 4 * k ≤ (b - a) / 4 * 3 := Nat.mul_le_mul_left _ hk
 rw [e1, e2, Q5h (by omega), ← Int.natCast_mul, Q5h (by omega), ← Int.natCast_add, Q5h (by omega)]
theorem natA {a b : Nat} (h : a + b ≤ 4000000000000) : IntKind.i64.wrap ((a : Int) + (b : Int)) = ((a + b : Nat) : Int) := by
 rw [← Int.natCast_add, Q5h (by omega)]
theorem nat2 {a : Nat} (h : a ≤ 1000000000000) : IntKind.i64.wrap (2 * (a : Int)) = ((2 * a : Nat) : Int) := by
 rw [show 2 * (a : Int) = ((2 * a : Nat) : Int) by omega, Q5h (by omega)]
theorem pre1 {k : Nat} (h : k ≤ 1000000000000) : IntKind.i64.wrap ((k : Int) - 1) = (k : Int) - 1 := IntWalk.i64_in _ (by omega)
theorem Qjl {σ R : Type} {J : σ → Option R} {B : (σ → Option R) → Option R} {r : Option R} (P : σ → Prop) (G : σ → Option R) (hJ : ∀ z, P z → J z = G z) (hB : ∀ k, (∀ z, P z → k z = G z) → B k = r) : Qj J B = r := hB J hJ
theorem Q5o {a b : Nat} (h : b ≤ a) (h' : a < 9223372036854775808) : IntKind.i64.wrap ((a : Int) - (b : Int)) = ((a - b : Nat) : Int) := by
 rw [show (a : Int) - (b : Int) = ((a - b : Nat) : Int) by omega, Q5h (by omega)]
theorem dlt {a b : Nat} (h : a < b) : decide ((a : Int) < (b : Int)) = true := by simp; omega
theorem dnlt {a b : Nat} (h : ¬ a < b) : decide ((a : Int) < (b : Int)) = false := by simp; omega
theorem dle {a b : Nat} (h : a ≤ b) : decide ((a : Int) ≤ (b : Int)) = true := by simp; omega
theorem dnle {a b : Nat} (h : ¬ a ≤ b) : decide ((a : Int) ≤ (b : Int)) = false := by simp; omega
abbrev St1 : Type := (Int × Unit) × Unit × Unit × Unit
abbrev st1 (i : Nat) : St1 := (((i : Int), ()), (), (), ())
theorem Qai {σ R : Type} {J : σ → Option R} {B : (σ → Option R) → Option R} (x : σ) (h : ∀ k, B k = k x) : Qj J B = J x := h J
theorem Q8s {σ R : Type} {J : σ → Option R} {B : (σ → Option R) → Option R} {Q : R → Prop} (P : σ → Prop) (hJ : ∀ z, P z → ∃ r, J z = some r ∧ Q r) (hB : ∀ k, (∀ z, P z → ∃ r, k z = some r ∧ Q r) → ∃ r, B k = some r ∧ Q r) : ∃ r, Qj J B = some r ∧ Q r := hB J hJ
theorem Q11v : ((List.range 256).all fun c => match ([0, 1, 2, 2, 3, 3, 3, 3, 4, 4, 4, 4, 4, 4, 4, 4, 5, 5, 5, 5, 5, 5, 5, 5, 5, 5, 5, 5, 5, 5, 5, 5, 6, 6, 6, 6, 6, 6, 6, 6, 6, 6, 6, 6, 6, 6, 6, 6, 6, 6, 6, 6, 6, 6, 6, 6, 6, 6, 6, 6, 6, 6, 6, 6, 7, 7, 7, 7, 7, 7, 7, 7, 7, 7, 7, 7, 7, 7, 7, 7, 7, 7, 7, 7, 7, 7, 7, 7, 7, 7, 7, 7, 7, 7, 7, 7, 7, 7, 7, 7, 7, 7, 7, 7, 7, 7, 7, 7, 7, 7, 7, 7, 7, 7, 7, 7, 7, 7, 7, 7, 7, 7, 7, 7, 7, 7, 7, 7, 8, 8, 8, 8, 8, 8, 8, 8, 8, 8, 8, 8, 8, 8, 8, 8, 8, 8, 8, 8, 8, 8, 8, 8, 8, 8, 8, 8, 8, 8, 8, 8, 8, 8, 8, 8, 8, 8, 8, 8, 8, 8, 8, 8, 8, 8, 8, 8, 8, 8, 8, 8, 8, 8, 8, 8, 8, 8, 8, 8, 8, 8, 8, 8, 8, 8, 8, 8, 8, 8, 8, 8, 8, 8, 8, 8, 8, 8, 8, 8, 8, 8, 8, 8, 8, 8, 8, 8, 8, 8, 8, 8, 8, 8, 8, 8, 8, 8, 8, 8, 8, 8, 8, 8, 8, 8, 8, 8, 8, 8, 8, 8, 8, 8, 8, 8, 8, 8, 8, 8, 8, 8, 8, 8, 8, 8, 8, 8] : List UInt8)[c]? with | some t => decide (c = 0) || decide (2 ^ t.toNat ≤ 2 * c) && decide (t.toNat ≤ 8) | none => false) = true := by kernel_rfl
theorem Q12a (c : Nat) (h1 : 1 ≤ c) (h2 : c < 256) : ∃ t : UInt8, ([0, 1, 2, 2, 3, 3, 3, 3, 4, 4, 4, 4, 4, 4, 4, 4, 5, 5, 5, 5, 5, 5, 5, 5, 5, 5, 5, 5, 5, 5, 5, 5, 6, 6, 6, 6, 6, 6, 6, 6, 6, 6, 6, 6, 6, 6, 6, 6, 6, 6, 6, 6, 6, 6, 6, 6, 6, 6, 6, 6, 6, 6, 6, 6, 7, 7, 7, 7, 7, 7, 7, 7, 7, 7, 7, 7, 7, 7, 7, 7, 7, 7, 7, 7, 7, 7, 7, 7, 7, 7, 7, 7, 7, 7, 7, 7, 7, 7, 7, 7, 7, 7, 7, 7, 7, 7, 7, 7, 7, 7, 7, 7, 7, 7, 7, 7, 7, 7, 7, 7, 7, 7, 7, 7, 7, 7, 7, 7, 8, 8, 8, 8, 8, 8, 8, 8, 8, 8, 8, 8, 8, 8, 8, 8, 8, 8, 8, 8, 8, 8, 8, 8, 8, 8, 8, 8, 8, 8, 8, 8, 8, 8, 8, 8, 8, 8, 8, 8, 8, 8, 8, 8, 8, 8, 8, 8, 8, 8, 8, 8, 8, 8, 8, 8, 8, 8, 8, 8, 8, 8, 8, 8, 8, 8, 8, 8, 8, 8, 8, 8, 8, 8, 8, 8, 8, 8, 8, 8, 8, 8, 8, 8, 8, 8, 8, 8, 8, 8, 8, 8, 8, 8, 8, 8, 8, 8, 8, 8, 8, 8, 8, 8, 8, 8, 8, 8, 8, 8, 8, 8, 8, 8, 8, 8, 8, 8, 8, 8, 8, 8, 8, 8, 8, 8, 8, 8] : List UInt8)[c]? = some t ∧ 2 ^ t.toNat ≤ 2 * c ∧ t.toNat ≤ 8 := by
 have := List.all_eq_true.1 Q11v c (by simp [h2])
 generalize ([0, 1, 2, 2, 3, 3, 3, 3, 4, 4, 4, 4, 4, 4, 4, 4, 5, 5, 5, 5, 5, 5, 5, 5, 5, 5, 5, 5, 5, 5, 5, 5, 6, 6, 6, 6, 6, 6, 6, 6, 6, 6, 6, 6, 6, 6, 6, 6, 6, 6, 6, 6, 6, 6, 6, 6, 6, 6, 6, 6, 6, 6, 6, 6, 7, 7, 7, 7, 7, 7, 7, 7, 7, 7, 7, 7, 7, 7, 7, 7, 7, 7, 7, 7, 7, 7, 7, 7, 7, 7, 7, 7, 7, 7, 7, 7, 7, 7, 7, 7, 7, 7, 7, 7, 7, 7, 7, 7, 7, 7, 7, 7, 7, 7, 7, 7, 7, 7, 7, 7, 7, 7, 7, 7, 7, 7, 7, 7, 8, 8, 8, 8, 8, 8, 8, 8, 8, 8, 8, 8, 8, 8, 8, 8, 8, 8, 8, 8, 8, 8, 8, 8, 8, 8, 8, 8, 8, 8, 8, 8, 8, 8, 8, 8, 8, 8, 8, 8, 8, 8, 8, 8, 8, 8, 8, 8, 8, 8, 8, 8, 8, 8, 8, 8, 8, 8, 8, 8, 8, 8, 8, 8, 8, 8, 8, 8, 8, 8, 8, 8, 8, 8, 8, 8, 8, 8, 8, 8, 8, 8, 8, 8, 8, 8, 8, 8, 8, 8, 8, 8, 8, 8, 8, 8, 8, 8, 8, 8, 8, 8, 8, 8, 8, 8, 8, 8, 8, 8, 8, 8, 8, 8, 8, 8, 8, 8, 8, 8, 8, 8, 8, 8, 8, 8, 8, 8] : List UInt8)[c]? = o at this ⊢
 cases o with
 | none => simp at this
 | some t =>
  simp only [Bool.or_eq_true, Bool.and_eq_true, decide_eq_true_eq] at this
  rcases this with h | h
  ·omega
  ·exact ⟨t, rfl, h⟩
theorem Qlr (a b : Nat) : ((a : Int)).fdiv ((b : Nat) : Int) = ((a / b : Nat) : Int) := by
 rw [Int.fdiv_eq_ediv_of_nonneg _ (by omega)]; omega
theorem Qmj {x x' n d b : Nat} (hb : 2 ^ d = b) (h : x' * 2 ^ n ≤ x) : x' / b * 2 ^ (n + d) ≤ x := by
 have : x' / b * 2 ^ (n + d) = (x' / b * b) * 2 ^ n := by rw [Nat.pow_add, hb, Nat.mul_assoc, Nat.mul_comm (2 ^ n) b]
 rw [this]
 exact Nat.le_trans (Nat.mul_le_mul_right _ (Nat.div_mul_le_self _ _)) h
theorem Qm9 {n k : Nat} (h : n + k ≤ 1000) : IntKind.i64.wrap ((n : Int) + (k : Int)) = ((n + k : Nat) : Int) := by
 rw [← Int.natCast_add, Q5h (by omega)]
def LenQ (x : Nat) (r : Int) : Prop := ∃ k : Nat, r = (k : Int) ∧ 2 ^ k ≤ 2 * x ∧ k ≤ 64
theorem Q10v (N x : Nat) (h1 : 1 ≤ x) (h2 : x < 18446744073709551616) : ∃ r, Q4w N x = some r ∧ LenQ x r := by
 unfold Q4w
 have e32 : (4294967296 : Int) = ((4294967296 : Nat) : Int) := rfl
 have e16 : (65536 : Int) = ((65536 : Nat) : Int) := rfl
 have e8 : (256 : Int) = ((256 : Nat) : Int) := rfl
 refine Q8s (fun z => ∃ (y n : Nat), z = (((y : Int), (n : Int), ()), (), (), ()) ∧ 1 ≤ y ∧ y * 2 ^ n ≤ x ∧ y < 4294967296 ∧ n ≤ 32) ?_ ?_
 ·rintro z ⟨y, n, rfl, g1, g2, g3, g4⟩
  refine Q8s (fun z => ∃ (y n : Nat), z = (((y : Int), (n : Int), ()), (), (), ()) ∧ 1 ≤ y ∧ y * 2 ^ n ≤ x ∧ y < 65536 ∧ n ≤ 48) ?_ ?_
  ·rintro z ⟨y, n, rfl, g1, g2, g3, g4⟩
   refine Q8s (fun z => ∃ (y n : Nat), z = (((y : Int), (n : Int), ()), (), (), ()) ∧ 1 ≤ y ∧ y * 2 ^ n ≤ x ∧ y < 256 ∧ n ≤ 56) ?_ ?_
   ·rintro z ⟨y, n, rfl, g1, g2, g3, g4⟩
    have hu : (toU8 (IntKind.u8.wrap (y : Int))).toNat = y := by
     have : IntKind.u8.wrap (y : Int) = (y : Int) := by simp [IntKind.wrap, IntKind.bits, IntKind.signed]; omega
     rw [this]; simp [toU8]; omega
    obtain ⟨t, e, k1, k2⟩ := Q12a y g1 g3
    simp only [hu, e, Option.bind_some]
    refine ⟨_, rfl, n + t.toNat, Qm9 (by omega), ?_, by omega⟩
    rw [Nat.pow_add]
    have := Nat.mul_le_mul_left (2 ^ n) k1
    have e2 : 2 ^ n * (2 * y) = 2 * (y * 2 ^ n) := by rw [Nat.mul_comm, Nat.mul_assoc]
    omega
   ·intro k hk
    by_cases h : 256 ≤ y
    ·have d : decide ((256 : Int) ≤ (y : Int)) = true := by simp; omega
     simp only [d, cond_true]
     refine hk _ ⟨y / 256, n + 8, by rw [e8, Qlr, show (8 : Int) = ((8 : Nat) : Int) from rfl, Qm9 (by omega)], by omega, Qmj rfl g2, by omega, by omega⟩
    ·have d : decide ((256 : Int) ≤ (y : Int)) = false := by simp; omega
     simp only [d, cond_false]
     exact hk _ ⟨y, n, rfl, g1, g2, by omega, by omega⟩
  ·intro k hk
   by_cases h : 65536 ≤ y
   ·have d : decide ((65536 : Int) ≤ (y : Int)) = true := by simp; omega
    simp only [d, cond_true]
    refine hk _ ⟨y / 65536, n + 16, by rw [e16, Qlr, show (16 : Int) = ((16 : Nat) : Int) from rfl, Qm9 (by omega)], by omega, Qmj rfl g2, by omega, by omega⟩
   ·have d : decide ((65536 : Int) ≤ (y : Int)) = false := by simp; omega
    simp only [d, cond_false]
    exact hk _ ⟨y, n, rfl, g1, g2, by omega, by omega⟩
 ·intro k hk
  by_cases h : 4294967296 ≤ x
  ·have d : decide ((4294967296 : Int) ≤ (x : Int)) = true := by simp; omega
   simp only [d, cond_true]
   refine hk _ ⟨x / 4294967296, 32, by rw [e32, Qlr]; rfl, by omega, by have := Qmj (x := x) (x' := x) (n := 0) (d := 32) (b := 4294967296) rfl (by omega); simpa using this, by omega, by omega⟩
  ·have d : decide ((4294967296 : Int) ≤ (x : Int)) = false := by simp; omega
   simp only [d, cond_false]
   exact hk _ ⟨x, 0, rfl, h1, by omega, by omega, by omega⟩
theorem Qzn (N x : Nat) (h1 : 1 ≤ x) (h2 : x < 18446744073709551616) : ∃ r, F_math_bits_Len N x = some r ∧ LenQ x r := by
 unfold F_math_bits_Len
 obtain ⟨r, e, h⟩ := Q10v N x h1 h2
 rw [e]
 exact ⟨r, rfl, h⟩
theorem Qgb {n : Nat} (h : n < 18446744073709551616) : IntKind.u64.wrap (n : Int) = (n : Int) := by
 simp [IntKind.wrap, IntKind.bits, IntKind.signed]; omega
theorem Q113 (N x : Nat) (h1 : 1 ≤ x) (h2 : x ≤ 1000000000000) : ∃ m : Nat, Q22 N x = some ((m : Nat) : Int) ∧ 1 ≤ m ∧ m ≤ 2 * x := by
 unfold Q22
 rw [Qgb (by omega)]
 obtain ⟨r, e, k, rfl, g1, g2⟩ := Qzn N x h1 (by omega)
 rw [e, Option.bind_some]
 have d : decide ((0 : Int) ≤ (k : Int)) = true := by simp
 simp only [d, cond_true, Int.toNat_natCast, Nat.min_eq_left g2]
 have hp : 1 ≤ 2 ^ k := Nat.one_le_two_pow
 refine ⟨2 ^ k, ?_, hp, g1⟩
 have : (1 : Int) * 2 ^ k = ((2 ^ k : Nat) : Int) := by rw [Int.one_mul, Int.natCast_pow]; rfl
 rw [this, Qgb (by omega)]
theorem Q11g (x : Int) (m : Nat) (hm : m < 9223372036854775808) : ∃ r : Nat, bits BinOp.and IntKind.u64 x (m : Int) = (r : Int) ∧ r ≤ m := by
 refine ⟨(BitVec.ofInt 64 x &&& BitVec.ofInt 64 (m : Int)).toNat, ?_, ?_⟩
 ·have hle : (BitVec.ofInt 64 x &&& BitVec.ofInt 64 (m : Int)).toNat < 18446744073709551616 := BitVec.isLt _
  unfold bits
  exact Qgb hle
 ·rw [BitVec.toNat_and]
  refine Nat.le_trans Nat.and_le_right ?_
  simp [BitVec.toNat_ofInt]
  omega
section
variable {El : Type} [OrdS El]
instance elInh : Inhabited El := ⟨OrdS.dflt⟩
def ltU (x y : El) : Bool := OrdS.lt x y
theorem Q2l (x y : El) : OrdS.L x y = some (ltU x y) := OrdS.hL x y
theorem Qja (N : Nat) (l : List El) (a b : Nat) (s : Int) (ha : a < l.length) (hb : b < l.length) :
  ∃ (p q : Nat) (s' : Int), Q8c N l.length a b s l = some (((p : Int), (q : Int), ()), ((s', ()), ()), (), ()) ∧ ((p = a ∧ q = b) ∨ (p = b ∧ q = a)) := by
 unfold Q8c
 simp only [inR' ha, inR' hb, cond_true, Nat.zero_add, Int.toNat_natCast, List.getElem?_eq_getElem ha, List.getElem?_eq_getElem hb, Option.bind_some, Q2l]
 cases ltU l[b] l[a] with
 | true => exact ⟨b, a, _, rfl, .inr ⟨rfl, rfl⟩⟩
 | false => exact ⟨a, b, _, rfl, .inl ⟨rfl, rfl⟩⟩
theorem Qjr (N : Nat) (l : List El) (a b c : Nat) (s : Int) (ha : a < l.length) (hb : b < l.length) (hc : c < l.length) :
  ∃ (p : Nat) (s' : Int), Q8x N l.length a b c s l = some (((p : Int), ()), ((s', ()), ()), (), ()) ∧ (p = a ∨ p = b ∨ p = c) := by
 unfold Q8x
 obtain ⟨p1, q1, s1, e1, h1⟩ := Qja N l a b s ha hb
 rw [e1, Option.bind_some]
 obtain ⟨p2, q2, s2, e2, h2⟩ := Qja N l q1 c s1 (by omega) hc
 simp only [e2, Option.bind_some]
 obtain ⟨p3, q3, s3, e3, h3⟩ := Qja N l p1 p2 s2 (by omega) (by omega)
 simp only [e3, Option.bind_some]
 exact ⟨q3, s3, rfl, by omega⟩
theorem Q9m (N : Nat) (l : List El) (a : Nat) (s : Int) (h1 : 1 ≤ a) (h2 : a + 1 < l.length) (hl : l.length ≤ 1000000000000) :
  ∃ (p : Nat) (s' : Int), Q1t N l.length a s l = some (((p : Int), ()), ((s', ()), ()), (), ()) ∧ (p = a - 1 ∨ p = a ∨ p = a + 1) := by
 unfold Q1t
 rw [Qx (by omega) (by omega), Q6 (by omega)]
 obtain ⟨p, s', e, h⟩ := Qjr N l (a - 1) a (a + 1) s (by omega) (by omega) h2
 rw [e, Option.bind_some]
 exact ⟨p, s', rfl, h⟩
set_option maxHeartbeats 1000000 in
theorem choosePivot_eq (N : Nat) (l : List El) (a b : Nat) (hab : a < b) (hb : b ≤ l.length) (hl : l.length ≤ 1000000000000) :
  ∃ (p : Nat) (h : Int), Q61 N l l.length a b = some (l, (p : Int), h) ∧ a ≤ p ∧ p < b := by
 unfold Q61
 have q1 := quarter (k := 1) (show a ≤ b by omega) (by omega) (by omega)
 have q2 := quarter (k := 2) (show a ≤ b by omega) (by omega) (by omega)
 have q3 := quarter (k := 3) (show a ≤ b by omega) (by omega) (by omega)
 simp only [show ((1 : Nat) : Int) = 1 from rfl, show ((2 : Nat) : Int) = 2 from rfl, show ((3 : Nat) : Int) = 3 from rfl] at q1 q2 q3
 have e1 : IntKind.i64.wrap ((b : Int) - (a : Int)) = ((b - a : Nat) : Int) := by
  rw [show (b : Int) - (a : Int) = ((b - a : Nat) : Int) by omega, Q5h (by omega)]
 have fin : ∀ (p : Nat) (s : Int), a ≤ p → p < b → ∃ (p' : Nat) (h : Int), (bif s == 0 then some (l, ((p : Int), (1 : Int))) else bif s == 12 then some (l, ((p : Int), (2 : Int))) else some (l, ((p : Int), (0 : Int)))) = some (l, (p' : Int), h) ∧ a ≤ p' ∧ p' < b := by
  intro p s h1 h2
  cases s == 0 with
  | true => exact ⟨p, 1, rfl, h1, h2⟩
  | false =>
   cases s == 12 with
   | true => exact ⟨p, 2, rfl, h1, h2⟩
   | false => exact ⟨p, 0, rfl, h1, h2⟩
 rw [e1] at q1 q2 q3
 simp only [Qj, e1, q1, q2, q3]
 have hv1 : 4 * ((b - a) / 4) ≤ b - a := Nat.mul_div_le _ _
 have hv2 : b - a < 4 * ((b - a) / 4) + 4 := by omega
 have hv3 : 50 ≤ b - a → 12 ≤ (b - a) / 4 := by omega
 clear q1 q2 q3 e1
 generalize (b - a) / 4 = v at *
 by_cases h8 : 8 ≤ b - a
 ·have d8 : decide ((8 : Int) ≤ ((b - a : Nat) : Int)) = true := by simp; omega
  rw [d8, cond_true]
  by_cases h50 : 50 ≤ b - a
  ·have d50 : decide ((50 : Int) ≤ ((b - a : Nat) : Int)) = true := by simp; omega
   rw [d50, cond_true]
   obtain ⟨p1, s1, f1, g1⟩ := Q9m N l (a + v * 1) 0 (by omega) (by omega) hl
   obtain ⟨p2, s2, f2, g2⟩ := Q9m N l (a + v * 2) s1 (by omega) (by omega) hl
   obtain ⟨p3, s3, f3, g3⟩ := Q9m N l (a + v * 3) s2 (by omega) (by omega) hl
   obtain ⟨p4, s4, f4, g4⟩ := Qjr N l p1 p2 p3 s3 (by omega) (by omega) (by omega)
   simp only [f1, f2, f3, f4, Option.bind_some]
   exact fin p4 s4 (by omega) (by omega)
  ·have d50 : decide ((50 : Int) ≤ ((b - a : Nat) : Int)) = false := by simp; omega
   rw [d50, cond_false]
   obtain ⟨p4, s4, f4, g4⟩ := Qjr N l (a + v * 1) (a + v * 2) (a + v * 3) 0 (by omega) (by omega) (by omega)
   simp only [f4, Option.bind_some]
   exact fin p4 s4 (by omega) (by omega)
 ·have d8 : decide ((8 : Int) ≤ ((b - a : Nat) : Int)) = false := by simp; omega
  rw [d8, cond_false]
  exact fin (a + v * 2) 0 (by omega) (by omega)
def swL (l : List El) (i j : Nat) : List El := (swp l.toArray i j).toList
theorem Q46 {l : List El} {i j : Nat} (hi : i < l.length) (hj : j < l.length) : (l.set i l[j]).set j l[i] = swL l i j := by
 unfold swL swp
 simp [hi, hj]
theorem Q33 (l : List El) (i j : Nat) : (swL l i j).length = l.length := by simp [swL, swp]
def PermL (a b : Nat) (l l' : List El) : Prop := PermIn a b l.toArray l'.toArray
theorem PermL.len {a b : Nat} {l l' : List El} (h : PermL a b l l') : l'.length = l.length := by simpa using h.1
theorem PermL.refl (a b : Nat) (l : List El) : PermL a b l l := permIn_refl _ _ _
theorem PermL.trans {a b : Nat} {l l' l'' : List El} (h : PermL a b l l') (h' : PermL a b l' l'') : PermL a b l l'' := permIn_trans _ _ _ _ _ h h'
theorem PermL.swap {a b i j : Nat} {l : List El} (h1 : a ≤ i) (h2 : i < b) (h3 : a ≤ j) (h4 : j < b) (hb : b ≤ l.length) : PermL a b l (swL l i j) := by
 have := swp_permIn (α := El) l.toArray a b i j h1 h2 h3 h4 (by simpa using hb)
 simpa [PermL, swL] using this
theorem Qn {l : List El} {i j : Nat} (hi : i < l.length) (hj : j < l.length) : (l.set i l[j])[j]? = some l[j] := by
 by_cases h : i = j
 ·subst h; simp [hi]
 ·simp [List.getElem?_set, h, hj]
theorem Qo3 (N : Nat) (l : List El) (a b len : Nat) (hab : a < b) (hlen : l.length = len) (hb : b ≤ len) (hl : len ≤ 1000000000000) (hN : 1000000000000 < N) :
  ∃ l', Q3h N l len a b = some (l', ()) ∧ PermL a b l l' := by
 suffices H : ∃ r, Q3h N l len a b = some r ∧ ∃ l', r = (l', ()) ∧ PermL a b l l' by
  obtain ⟨r, h1, l', rfl, h2⟩ := H
  exact ⟨l', h1, h2⟩
 unfold Q3h
 rw [Qx (by omega) (by omega)]
 refine Q5f (Q := fun r : List El × Unit => ∃ l', r = (l', ()) ∧ PermL a b l l') (fun q z => ∃ (i j : Nat) (m : List El), z = (((i : Int), (j : Int), ()), (), (), m, ()) ∧ a ≤ i ∧ j < b ∧ q = b - i ∧ i ≤ b ∧ PermL a b l m) ?_ N (b - a) _
  ⟨a, b - 1, l, rfl, Nat.le_refl _, by omega, rfl, by omega, .refl _ _ _⟩ (by omega)
 rintro q z rec ⟨i, j, m, rfl, h1, h2, rfl, h3, h4⟩ ih
 have hm : m.length = len := by rw [h4.len, hlen]
 by_cases hij : i < j
 ·have d1 : decide ((i : Int) < (j : Int)) = true := by simp; omega
  have hi : i < m.length := by omega
  have hj : j < m.length := by omega
  simp only [d1, cond_true, ← hm, inR' hi, inR' hj, Nat.zero_add, Int.toNat_natCast, List.getElem?_eq_getElem hi, List.getElem?_eq_getElem hj, Option.bind_some, Qn hi hj, Q46 hi hj, Q6 (show i + 1 < 9223372036854775808 by omega), Qx (show 0 < j by omega) (show j < 9223372036854775808 by omega)]
  exact ih (b - (i + 1)) _ (by omega) ⟨i + 1, j - 1, swL m i j, rfl, by omega, by omega, rfl, by omega, h4.trans (.swap h1 (by omega) (by omega) h2 (by omega))⟩
 ·have d1 : decide ((i : Int) < (j : Int)) = false := by simp; omega
  simp only [d1, cond_false]
  exact ⟨_, rfl, m, rfl, h4⟩
theorem getA {l : List El} {i : Nat} (h : i < l.length) : l.toArray[i]! = l[i] := by simp [h]
theorem swA (l : List El) (i j : Nat) : swp l.toArray i j = (swL l i j).toArray := by simp [swL]
theorem Qlb (N : Nat) (l : List El) (lo hi first len : Nat) (hlen : l.length = len) (hf : first + hi ≤ len) (hlo : lo ≤ 1000000000000) (hl : len ≤ 1000000000000) (hN : 1000000000000 < N) :
  Q7p N l len lo hi first = some ((siftDown ltU hi first lo l.toArray).toList, ()) := by
 unfold Q7p
 refine (Q3l (G := fun z => some ((siftDown ltU hi first z.1.1.toNat z.2.2.2.1.toArray).toList, ())) (fun q z => ∃ (r : Nat) (m : List El), z = (((r : Int), ()), (), (), m, ()) ∧ m.length = len ∧ r ≤ 1000000000000 ∧ q = hi - r) ?_ N (hi - lo) _ ⟨lo, l, rfl, hlen, hlo, rfl⟩ (by omega)).trans (by simp)
 rintro q z rec ⟨r, m, rfl, hm, hr, rfl⟩ ih
 have e1 : IntKind.i64.wrap (IntKind.i64.wrap (2 * (r : Int)) + 1) = ((2 * r + 1 : Nat) : Int) := by rw [nat2 hr, Q6 (by omega)]
 have e2 : IntKind.i64.wrap (((2 * r + 1 : Nat) : Int) + 1) = ((2 * r + 2 : Nat) : Int) := Q6 (by omega)
 simp only [e1, e2, Int.toNat_natCast]
 rw [siftDown]
 by_cases h : 2 * r + 1 ≥ hi
 ·have d : decide ((hi : Int) ≤ ((2 * r + 1 : Nat) : Int)) = true := by simp; omega
  simp only [d, cond_true, dif_pos h, List.toList_toArray]
 ·have d : decide ((hi : Int) ≤ ((2 * r + 1 : Nat) : Int)) = false := by simp; omega
  rw [dif_neg h]
  have f0 : first + r < m.length := by omega
  have f1 : first + (2 * r + 1) < m.length := by omega
  have a0 : IntKind.i64.wrap ((first : Int) + (r : Int)) = ((first + r : Nat) : Int) := natA (by omega)
  have a1 : IntKind.i64.wrap ((first : Int) + ((2 * r + 1 : Nat) : Int)) = ((first + (2 * r + 1) : Nat) : Int) := natA (by omega)
  have a2 : IntKind.i64.wrap (((first + (2 * r + 1) : Nat) : Int) + 1) = ((first + (2 * r + 1) + 1 : Nat) : Int) := Q6 (by omega)
  have hnext : ∀ c : Nat, c = 2 * r + 1 ∨ c = 2 * r + 2 → c < hi → rec (((c : Int), ()), (), (), swL m (first + r) (first + c), ()) = some ((siftDown ltU hi first c (swL m (first + r) (first + c)).toArray).toList, ()) := by
   intro c hc hch
   exact ih (hi - c) _ (by omega) ⟨c, _, rfl, by rw [Q33, hm], by omega, rfl⟩
  simp only [d, cond_false, Qj, a0, a1, a2, ← hm, inR' f0, inR' f1, cond_true, Nat.zero_add, Int.toNat_natCast, List.getElem?_eq_getElem f0, List.getElem?_eq_getElem f1, Option.bind_some, Q2l]
  by_cases h2 : 2 * r + 2 < hi
  ·have f2 : first + (2 * r + 1) + 1 < m.length := by omega
   have f3 : first + (2 * r + 2) < m.length := by omega
   have a3 : IntKind.i64.wrap ((first : Int) + ((2 * r + 2 : Nat) : Int)) = ((first + (2 * r + 2) : Nat) : Int) := natA (by omega)
   have d2 : decide (((2 * r + 2 : Nat) : Int) < (hi : Int)) = true := by simp; omega
   have d3 : decide (2 * r + 1 + 1 < hi) = true := by simp; omega
   have g3 : m[first + (2 * r + 1) + 1] = m[first + (2 * r + 2)] := rfl
   simp only [d2, cond_true, inR' f2, List.getElem?_eq_getElem f2, Option.bind_some, Q2l, getA f0, getA f1, getA f2, getA f3, d3, Bool.true_and, a3, inR' f3, List.getElem?_eq_getElem f3, dif_pos h2, swA]
   cases ltU m[first + (2 * r + 1)] m[first + (2 * r + 1) + 1] with
   | true =>
    simp only [cond_true, if_true, a3, inR' f3, List.getElem?_eq_getElem f3, Option.bind_some, Int.toNat_natCast, Nat.zero_add, Q2l]
    cases ltU m[first + r] m[first + (2 * r + 2)] with
    | true => simp only [Bool.not_true, cond_false, Qn f0 f3, Option.bind_some, Q46 f0 f3, Bool.false_eq_true, if_false, hnext (2 * r + 2) (.inr rfl) h2]
    | false => simp
   | false =>
    simp only [cond_false, Bool.false_eq_true, if_false, a1, inR' f1, cond_true, List.getElem?_eq_getElem f1, Option.bind_some, Int.toNat_natCast, Nat.zero_add, Q2l]
    cases ltU m[first + r] m[first + (2 * r + 1)] with
    | true => simp only [Bool.not_true, cond_false, Qn f0 f1, Option.bind_some, Q46 f0 f1, Bool.false_eq_true, if_false, hnext (2 * r + 1) (.inl rfl) (by omega)]
    | false => simp
  ·have d2 : decide (((2 * r + 2 : Nat) : Int) < (hi : Int)) = false := by simp; omega
   have d3 : decide (2 * r + 1 + 1 < hi) = false := by simp; omega
   simp only [d2, cond_false, a1, inR' f1, cond_true, List.getElem?_eq_getElem f1, Option.bind_some, Q2l, d3, Bool.false_and, Bool.false_eq_true, if_false, getA f0, getA f1, swA, Int.toNat_natCast, Nat.zero_add]
   cases ltU m[first + r] m[first + (2 * r + 1)] with
   | true => simp only [Bool.not_true, cond_false, Qn f0 f1, Option.bind_some, Q46 f0 f1, Bool.false_eq_true, if_false, hnext (2 * r + 1) (.inl rfl) (by omega)]
   | false => simp
theorem Qpt (hi F : Nat) : ∀ (n root : Nat) (d : Array El), hi - root ≤ n → (siftDown ltU hi F root d).size = d.size := by
 intro n
 induction n with
 | zero =>
  intro root d h
  rw [siftDown, dif_pos (by omega)]
 | succ n ih =>
  intro root d h
  rw [siftDown]
  split
  ·rfl
  ·repeat' split
   all_goals first | rfl | rw [ih _ _ (by omega), size_swp]
theorem Que (N : Nat) (l : List El) (a b len : Nat) (hlen : l.length = len) (hab : a < b) (hb : b ≤ len) (hl : len ≤ 1000000000000) (hN : 1000000000000 < N) :
  Q9f N l len a b = some ((heapSort ltU l.toArray a b).toList, ()) := by
 unfold Q9f heapSort
 have e1 : IntKind.i64.wrap ((b : Int) - (a : Int)) = ((b - a : Nat) : Int) := by
  rw [show (b : Int) - (a : Int) = ((b - a : Nat) : Int) by omega, Q5h (by omega)]
 have e2 : IntKind.i64.wrap (((b - a : Nat) : Int) - 1) = ((b - a : Nat) : Int) - 1 := pre1 (by omega)
 have e3 : (((b - a : Nat) : Int) - 1).tdiv 2 = (((b - a - 1) / 2 + 1 : Nat) : Int) - 1 := by
  rw [Int.tdiv_eq_ediv_of_nonneg (by omega)]; omega
 have e4 : IntKind.i64.wrap ((((b - a - 1) / 2 + 1 : Nat) : Int) - 1) = (((b - a - 1) / 2 + 1 : Nat) : Int) - 1 := pre1 (by omega)
 simp only [e1, e2, e3, e4]
 refine (Q3l (G := fun z => some ((heapPop ltU a (b - a) (heapBuild ltU (b - a) a (z.1.1 + 1).toNat z.2.2.2.1.toArray)).toList, ())) (fun q z => ∃ (k : Nat) (m : List El), z = (((k : Int) - 1, ()), (), (), m, ()) ∧ m.length = len ∧ k ≤ len ∧ q = k) ?_ N ((b - a - 1) / 2 + 1) _ ⟨(b - a - 1) / 2 + 1, l, rfl, hlen, by omega, rfl⟩ (by omega)).trans ?_
 ·rintro q z rec ⟨k, m, rfl, hm, hk, hq⟩ ih
  subst hq
  rcases Nat.eq_zero_or_pos q with h0 | h0
  ·subst h0
   have d : decide ((0 : Int) ≤ (((0 : Nat) : Int) - 1)) = false := by decide
   simp only [d, cond_false]
   refine (Q3l (G := fun z => some ((heapPop ltU a (z.1.1 + 1).toNat z.2.2.2.1.toArray).toList, ())) (fun q z => ∃ (m : List El), z = (((q : Int) - 1, ()), (), (), m, ()) ∧ m.length = len ∧ q ≤ b - a) ?_ N (b - a) _ ⟨m, rfl, hm, Nat.le_refl _⟩ (by omega)).trans ?_
   ·rintro q z rec2 ⟨m, rfl, hm, hq⟩ ih2
    rcases Nat.eq_zero_or_pos q with h0 | h0
    ·subst h0
     simp only [d, cond_false]
     have t : (((0 : Nat) : Int) - 1 + 1).toNat = 0 := rfl
     simp only [t, heapPop, List.toList_toArray]
    ·obtain ⟨k, rfl⟩ : ∃ k, q = k + 1 := ⟨q - 1, by omega⟩
     have ek : (((k + 1 : Nat) : Int) - 1) = (k : Int) := by omega
     have dk : decide ((0 : Int) ≤ (k : Int)) = true := by simp
     have fa : a < m.length := by omega
     have fk : a + k < m.length := by omega
     have t2 : ((k : Int) + 1).toNat = k + 1 := by omega
     have t1 : ((k : Int) - 1 + 1).toNat = k := by omega
     have hl2 : (swL m a (a + k)).length = len := by rw [Q33, hm]
     have hs := Qlb N (swL m a (a + k)) 0 k a len hl2 (by omega) (by omega) hl hN
     have hn := ih2 k ((((k : Int) - 1), ()), (), (), (siftDown ltU k a 0 (swL m a (a + k)).toArray).toList, ()) (by omega) ⟨_, rfl, by rw [Array.length_toList, Qpt k a k 0 _ (by omega)]; simpa using hl2, by omega⟩
     have hz : ((0 : Nat) : Int) = (0 : Int) := rfl
     rw [hz] at hs
     simp only [ek, dk, cond_true, natA (show a + k ≤ 4000000000000 by omega), ← hm, inR' fa, inR' fk, Nat.zero_add, Int.toNat_natCast, List.getElem?_eq_getElem fa, List.getElem?_eq_getElem fk, Option.bind_some, Qn fa fk, Q46 fa fk, pre1 (show k ≤ 1000000000000 by omega)]
     rw [hm, hs, Option.bind_some, hn]
     simp only [t1, t2, heapPop, swA]
   ·have t : (((b - a : Nat) : Int) - 1 + 1).toNat = b - a := by omega
    have t0 : (((0 : Nat) : Int) - 1 + 1).toNat = 0 := rfl
    simp only [t, t0, heapBuild]
  ·obtain ⟨k, rfl⟩ : ∃ k, q = k + 1 := ⟨q - 1, by omega⟩
   have ek : (((k + 1 : Nat) : Int) - 1) = (k : Int) := by omega
   have dk : decide ((0 : Int) ≤ (k : Int)) = true := by simp
   have t2 : ((k : Int) + 1).toNat = k + 1 := by omega
   have t1 : ((k : Int) - 1 + 1).toNat = k := by omega
   have hn := ih k ((((k : Int) - 1), ()), (), (), (siftDown ltU (b - a) a k m.toArray).toList, ()) (by omega) ⟨k, _, rfl, by rw [Array.length_toList, Qpt (b - a) a (b - a) k _ (by omega)]; simpa using hm, by omega, rfl⟩
   simp only [ek, dk, cond_true, Qlb N m k (b - a) a len hm (by omega) (by omega) hl hN, Option.bind_some, pre1 (show k ≤ 1000000000000 by omega)]
   rw [hn]
   simp only [t1, t2, heapBuild]
 ·have t : ((((b - a - 1) / 2 + 1 : Nat) : Int) - 1 + 1).toNat = (b - a - 1) / 2 + 1 := by omega
  simp only [t]
theorem Qm1 (N : Nat) (l : List El) (a b len : Nat) (hlen : l.length = len) (hab : a ≤ b) (hb : b ≤ len) (hl : len ≤ 1000000000000) (hN : 1000000000000 < N) :
  Q4q N l len a b = some ((insertionSort ltU l.toArray a b).toList, ()) := by
 unfold Q4q insertionSort
 rw [Q6 (by omega)]
 refine (Q3l (G := fun z => some ((insOuter ltU a b z.1.1.toNat z.2.2.2.1.toArray).toList, ())) (fun q z => ∃ (i : Nat) (m : List El), z = (((i : Int), ()), (), (), m, ()) ∧ m.length = len ∧ a < i ∧ i ≤ len + 1 ∧ q = b - i) ?_ N (b - (a + 1)) _ ⟨a + 1, l, rfl, hlen, by omega, by omega, rfl⟩ (by omega)).trans (by simp)
 rintro q z rec ⟨i, m, rfl, hm, hi, hi2, rfl⟩ ih
 simp only [Int.toNat_natCast]
 rw [insOuter]
 by_cases h : i < b
 ·have d : decide ((i : Int) < (b : Int)) = true := by simp; omega
  rw [if_pos h]
  simp only [d, cond_true]
  have hn : ∀ m' : List El, m'.length = len → rec ((((i + 1 : Nat) : Int), ()), (), (), m', ()) = some ((insOuter ltU a b (i + 1) m'.toArray).toList, ()) := fun m' h' => ih (b - (i + 1)) _ (by omega) ⟨i + 1, m', rfl, h', by omega, by omega, rfl⟩
  refine (Q3l (G := fun z => some ((insOuter ltU a b (i + 1) (insInner ltU a z.1.1.toNat z.2.2.2.1.toArray)).toList, ())) (fun q z => ∃ (m : List El), z = (((q : Int), ()), (), (), m, ()) ∧ m.length = len ∧ q < len ∧ a ≤ q) ?_ N i _ ⟨m, rfl, hm, by omega, by omega⟩ (by omega)).trans (by simp)
  rintro j z rec2 ⟨m, rfl, hm, hj, haj⟩ ih2
  by_cases hj0 : a < j
  ·obtain ⟨k, rfl⟩ : ∃ k, j = k + 1 := ⟨j - 1, by omega⟩
   have d2 : decide ((a : Int) < ((k + 1 : Nat) : Int)) = true := by simp; omega
   have w : IntKind.i64.wrap (((k + 1 : Nat) : Int) - 1) = (k : Int) := by rw [Qx (by omega) (by omega)]; rfl
   have f1 : k + 1 < m.length := by omega
   have f0 : k < m.length := by omega
   have hgt : decide (k + 1 > a) = true := by simp; omega
   have hn2 := ih2 k (((k : Int), ()), (), (), swL m (k + 1) k, ()) (by omega) ⟨_, rfl, by rw [Q33, hm], by omega, by omega⟩
   simp only [Qj, d2, cond_true, w, ← hm, inR' f1, inR' f0, Nat.zero_add, Int.toNat_natCast, List.getElem?_eq_getElem f1, List.getElem?_eq_getElem f0, Option.bind_some, Q2l, insInner, hgt, Bool.true_and, getA f1, getA f0, Q6 (show i + 1 < 9223372036854775808 by omega), Qn f1 f0, Q46 f1 f0, hn2, swA]
   cases ltU m[k + 1] m[k] with
   | true => simp
   | false => simp only [cond_false, Bool.false_eq_true, if_false]; exact hn m hm
  ·have : j = a := by omega
   subst this
   have d2 : decide ((j : Int) < (j : Int)) = false := by simp
   simp only [Qj, d2, cond_false, Q6 (show i + 1 < 9223372036854775808 by omega), hn m hm, Int.toNat_natCast]
   cases j with
   | zero => rfl
   | succ k => simp [insInner]
 ·have d : decide ((i : Int) < (b : Int)) = false := by simp; omega
  rw [if_neg h]
  simp only [d, cond_false]
theorem Qd3 (a b s i : Nat) (d : Array El) : partialIns ltU a b (s + 1) i d =
  if scanSorted ltU d b i = b then (d, true) else if b - a < 50 then (d, false) else
   partialIns ltU a b s (scanSorted ltU d b i) (fixUp ltU b (scanSorted ltU d b i) (fixDown ltU a (scanSorted ltU d b i) (swp d (scanSorted ltU d b i) (scanSorted ltU d b i - 1)))) := rfl
set_option maxHeartbeats 2000000 in
theorem Qev (N : Nat) (l : List El) (a b len : Nat) (hlen : l.length = len) (hab : a < b) (hb : b ≤ len) (hl : len ≤ 1000000000000) (hN : 1000000000000 < N) :
  Q1j N l len a b = some ((partialInsertionSort ltU l.toArray a b).1.toList, (partialInsertionSort ltU l.toArray a b).2) := by
 unfold Q1j partialInsertionSort
 rw [Q6 (by omega)]
 refine (Q3l (G := fun z => some ((partialIns ltU a b (5 - z.1.2.1).toNat z.1.1.toNat z.2.2.2.1.toArray).1.toList, (partialIns ltU a b (5 - z.1.2.1).toNat z.1.1.toNat z.2.2.2.1.toArray).2)) (fun q z => ∃ (i : Nat) (m : List El), z = (((i : Int), (5 : Int) - (q : Int), ()), (), (), m, ()) ∧ m.length = len ∧ a < i ∧ i ≤ b ∧ q ≤ 5) ?_ N 5 _ ⟨a + 1, l, rfl, hlen, by omega, by omega, by omega⟩ (by omega)).trans rfl
 rintro q z rec ⟨i, m, rfl, hm, hai, hib, hq⟩ ih
 have hs0 : ((5 : Int) - ((5 : Int) - (q : Int))).toNat = q := by omega
 simp only [hs0, Int.toNat_natCast]
 cases q with
 | zero => rfl
 | succ s =>
  have dq : decide ((5 : Int) - ((s + 1 : Nat) : Int) < 5) = true := by simp; omega
  have wq : IntKind.i64.wrap ((5 : Int) - ((s + 1 : Nat) : Int) + 1) = (5 : Int) - (s : Int) := by rw [IntWalk.i64_in _ (by omega)]; omega
  have hs1 : ((5 : Int) - ((5 : Int) - (s : Int))).toNat = s := by omega
  have hnext : ∀ (i' : Nat) (m' : List El), m'.length = len → a < i' → i' ≤ b → rec (((i' : Int), (5 : Int) - (s : Int), ()), (), (), m', ()) = some ((partialIns ltU a b s i' m'.toArray).1.toList, (partialIns ltU a b s i' m'.toArray).2) := by
   intro i' m' h1 h2 h3
   have := ih s (((i' : Int), (5 : Int) - (s : Int), ()), (), (), m', ()) (by omega) ⟨i', m', rfl, h1, h2, h3, by omega⟩
   simpa only [hs1, Int.toNat_natCast] using this
  simp only [dq, cond_true, wq]
  refine Qjl (fun z => ∃ k : Nat, z = (((k : Int), ()), (), (), ()) ∧ a < k ∧ k ≤ b ∧ scanSorted ltU m.toArray b k = k) (fun z => some ((partialIns ltU a b (s + 1) z.1.1.toNat m.toArray).1.toList, (partialIns ltU a b (s + 1) z.1.1.toNat m.toArray).2)) ?_ ?_
  ·rintro z ⟨k, rfl, hak, hkb, hk⟩
   simp only [Int.toNat_natCast]
   rw [Qd3, hk]
   by_cases e : k = b
   ·subst e
    simp
   ·have eb : ((k : Int) == (b : Int)) = false := by simp; omega
    rw [if_neg e]
    simp only [eb, cond_false, Q5o (show a ≤ b by omega) (show b < 9223372036854775808 by omega)]
    by_cases h50 : b - a < 50
    ·have d50 : decide (((b - a : Nat) : Int) < 50) = true := by simp; omega
     simp [d50, h50]
    ·have d50 : decide (((b - a : Nat) : Int) < 50) = false := by simp; omega
     have f1 : k < m.length := by omega
     have f0 : k - 1 < m.length := by omega
     rw [if_neg h50]
     simp only [d50, cond_false, Qx (show 0 < k by omega) (show k < 9223372036854775808 by omega), ← hm, inR' f1, inR' f0, cond_true, Nat.zero_add, Int.toNat_natCast, List.getElem?_eq_getElem f1, List.getElem?_eq_getElem f0, Option.bind_some, Qn f1 f0, Q46 f1 f0]
     have hm1 : (swL m k (k - 1)).length = len := by rw [Q33, hm]
     rw [swA]
     generalize swL m k (k - 1) = m1 at hm1
     refine Qjl (fun z => ∃ m2 : List El, z = ((), (), (), m2, ()) ∧ m2.length = len) (fun z => some ((partialIns ltU a b s k (fixUp ltU b k z.2.2.2.1.toArray)).1.toList, (partialIns ltU a b s k (fixUp ltU b k z.2.2.2.1.toArray)).2)) ?_ ?_
     ·rintro z ⟨m2, rfl, hm2⟩
      simp only [Q5o (show k ≤ b by omega) (show b < 9223372036854775808 by omega), Q6 (show k + 1 < 9223372036854775808 by omega)]
      unfold fixUp
      by_cases h2 : b - k ≥ 2
      ·have d2 : decide ((2 : Int) ≤ ((b - k : Nat) : Int)) = true := by simp; omega
       simp only [d2, cond_true, if_pos h2]
       refine (Q3l (G := fun z => some ((partialIns ltU a b s k (shiftUp ltU b z.1.1.toNat z.2.2.2.1.toArray)).1.toList, (partialIns ltU a b s k (shiftUp ltU b z.1.1.toNat z.2.2.2.1.toArray)).2)) (fun q z => ∃ (j : Nat) (m : List El), z = (((j : Int), ()), (), (), m, ()) ∧ m.length = len ∧ k < j ∧ j ≤ b ∧ q = b - j) ?_ N (b - (k + 1)) _ ⟨k + 1, m2, rfl, hm2, by omega, by omega, rfl⟩ (by omega)).trans (by simp)
       rintro q z rec1 ⟨j, m3, rfl, hm3, hj1, hj2, rfl⟩ ih1
       simp only [Int.toNat_natCast]
       rw [shiftUp]
       by_cases hj : j < b
       ·have g1 : j < m3.length := by omega
        have g0 : j - 1 < m3.length := by omega
        rw [if_pos hj]
        have hr := ih1 (b - (j + 1)) ((((j + 1 : Nat) : Int), ()), (), (), swL m3 j (j - 1), ()) (by omega) ⟨j + 1, _, rfl, by rw [Q33, hm3], by omega, by omega, rfl⟩
        simp only [dlt hj, cond_true, Qx (show 0 < j by omega) (show j < 9223372036854775808 by omega), hm, ← hm3, inR' g1, inR' g0, Nat.zero_add, Int.toNat_natCast, List.getElem?_eq_getElem g1, List.getElem?_eq_getElem g0, Option.bind_some, Q2l, Qn g1 g0, Q46 g1 g0, getA g1, getA g0, Q6 (show j + 1 < 9223372036854775808 by omega), hr, swA]
        cases ltU m3[j] m3[j - 1] with
        | true => simp
        | false => simp only [Bool.not_false, cond_true, if_true]; exact hnext k m3 hm3 (by omega) (by omega)
       ·rw [if_neg hj]
        simp only [dnlt hj, cond_false]
        exact hnext k m3 hm3 (by omega) (by omega)
      ·have d2 : decide ((2 : Int) ≤ ((b - k : Nat) : Int)) = false := by simp; omega
       simp only [d2, cond_false, if_neg h2]
       exact hnext k m2 hm2 (by omega) (by omega)
     ·intro k2 hk2
      simp only [Q5o (show a ≤ k by omega) (show k < 9223372036854775808 by omega)]
      unfold fixDown
      by_cases h2 : k - a ≥ 2
      ·have d2 : decide ((2 : Int) ≤ ((k - a : Nat) : Int)) = true := by simp; omega
       simp only [d2, cond_true, if_pos h2]
       refine (Q3l (G := fun z => some ((partialIns ltU a b s k (fixUp ltU b k (shiftDown ltU z.1.1.toNat z.2.2.2.1.toArray))).1.toList, (partialIns ltU a b s k (fixUp ltU b k (shiftDown ltU z.1.1.toNat z.2.2.2.1.toArray))).2)) (fun q z => ∃ (m : List El), z = (((q : Int), ()), (), (), m, ()) ∧ m.length = len ∧ q < len) ?_ N (k - 1) _ ⟨m1, rfl, hm1, by omega⟩ (by omega)).trans (by simp)
       rintro j z rec1 ⟨m3, rfl, hm3, hj⟩ ih1
       simp only [Int.toNat_natCast]
       cases j with
       | zero =>
        have d1 : decide ((1 : Int) ≤ ((0 : Nat) : Int)) = false := by decide
        simp only [d1, cond_false]
        exact hk2 ((), (), (), m3, ()) ⟨m3, rfl, hm3⟩
       | succ j =>
        have d1 : decide ((1 : Int) ≤ ((j + 1 : Nat) : Int)) = true := by simp; omega
        have g1 : j + 1 < m3.length := by omega
        have g0 : j < m3.length := by omega
        have w : IntKind.i64.wrap (((j + 1 : Nat) : Int) - 1) = (j : Int) := by rw [Qx (by omega) (by omega)]; rfl
        rw [shiftDown]
        have hr := ih1 j (((j : Int), ()), (), (), swL m3 (j + 1) j, ()) (by omega) ⟨_, rfl, by rw [Q33, hm3], by omega⟩
        simp only [d1, cond_true, w, hm, ← hm3, inR' g1, inR' g0, Nat.zero_add, Int.toNat_natCast, List.getElem?_eq_getElem g1, List.getElem?_eq_getElem g0, Option.bind_some, Q2l, Qn g1 g0, Q46 g1 g0, getA g1, getA g0, hr, swA]
        cases ltU m3[j + 1] m3[j] with
        | true => simp
        | false => simp only [Bool.not_false, cond_true, if_true]; exact hk2 ((), (), (), m3, ()) ⟨m3, rfl, hm3⟩
      ·have d2 : decide ((2 : Int) ≤ ((k - a : Nat) : Int)) = false := by simp; omega
       simp only [d2, cond_false, if_neg h2]
       exact hk2 ((), (), (), m1, ()) ⟨m1, rfl, hm1⟩
  ·intro k hk
   refine (Q3l (G := fun z => some ((partialIns ltU a b (s + 1) z.1.1.toNat m.toArray).1.toList, (partialIns ltU a b (s + 1) z.1.1.toNat m.toArray).2)) (fun q z => ∃ (j : Nat), z = (((j : Int), ()), (), (), ()) ∧ a < j ∧ j ≤ b ∧ q = b - j) ?_ N (b - i) _ ⟨i, rfl, by omega, by omega, rfl⟩ (by omega)).trans (by simp)
   rintro q z rec1 ⟨j, rfl, hj1, hj2, rfl⟩ ih1
   simp only [Int.toNat_natCast]
   by_cases hj : j < b
   ·have g1 : j < m.length := by omega
    have g0 : j - 1 < m.length := by omega
    have hr := ih1 (b - (j + 1)) ((((j + 1 : Nat) : Int), ()), (), (), ()) (by omega) ⟨j + 1, rfl, by omega, by omega, rfl⟩
    simp only [dlt hj, cond_true, Qx (show 0 < j by omega) (show j < 9223372036854775808 by omega), ← hm, inR' g1, inR' g0, Nat.zero_add, Int.toNat_natCast, List.getElem?_eq_getElem g1, List.getElem?_eq_getElem g0, Option.bind_some, Q2l, Q6 (show j + 1 < 9223372036854775808 by omega), hr]
    cases hlt : ltU m[j] m[j - 1] with
    | true =>
     simp only [Bool.not_true, cond_false]
     have hst : scanSorted ltU m.toArray b j = j := by rw [scanSorted, getA g1, getA g0, hlt]; simp
     exact hk (((j : Int), ()), (), (), ()) ⟨j, rfl, hj1, hj2, hst⟩
    | false =>
     simp only [Bool.not_false, cond_true]
     have hst : scanSorted ltU m.toArray b j = scanSorted ltU m.toArray b (j + 1) := by rw [scanSorted, getA g1, getA g0, hlt]; simp [hj]
     rw [Qd3 a b s j, Qd3 a b s (j + 1), hst]
   ·simp only [dnlt hj, cond_false]
    have hst : scanSorted ltU m.toArray b j = j := by rw [scanSorted]; simp [hj]
    exact hk (((j : Int), ()), (), (), ()) ⟨j, rfl, hj1, hj2, hst⟩
theorem up_eq {R : Type} (p : El → Bool) (d : Array El) (j i0 : Nat) (k : St1 → Option R) {f : (St1 → Option R) → St1 → Option R} (hs : ∀ rec (i : Nat), i0 ≤ i → f rec (st1 i) = if (decide (i ≤ j) && p d[i]!) = true then rec (st1 (i + 1)) else k (st1 i))
  (N : Nat) (hN : j + 1 < N) (i : Nat) (hi : i0 ≤ i) : iter f N (st1 i) = k (st1 (scanUp p d j i)) := by
 refine (Q3l (G := fun z => k (st1 (scanUp p d j z.1.1.toNat))) (fun q z => ∃ i : Nat, z = st1 i ∧ i0 ≤ i ∧ q = j + 1 - i) ?_ N (j + 1 - i) _ ⟨i, rfl, hi, rfl⟩ (by omega)).trans (by simp)
 rintro q z rec ⟨i, rfl, hi, rfl⟩ ih
 rw [hs rec i hi]
 simp only [Int.toNat_natCast]
 rw [scanUp]
 by_cases h : (decide (i ≤ j) && p d[i]!) = true
 ·have hij : i ≤ j := by simp at h; exact h.1
  rw [if_pos h, if_pos h, ih (j + 1 - (i + 1)) (st1 (i + 1)) (by omega) ⟨i + 1, rfl, by omega, rfl⟩]
  simp
 ·rw [if_neg h, if_neg h]
theorem Qox {R : Type} (p : El → Bool) (d : Array El) (i b : Nat) (h1 : 1 ≤ i) (k : St1 → Option R) {f : (St1 → Option R) → St1 → Option R} (hs : ∀ rec (j : Nat), j < b → f rec (st1 j) = if (decide (i ≤ j) && p d[j]!) = true then rec (st1 (j - 1)) else k (st1 j))
  (N : Nat) (hN : b < N) (j : Nat) (hj : j < b) : iter f N (st1 j) = k (st1 (scanDown p d i j)) := by
 refine (Q3l (G := fun z => k (st1 (scanDown p d i z.1.1.toNat))) (fun q z => z = st1 q ∧ q < b) ?_ N j _ ⟨rfl, hj⟩ (by omega)).trans (by simp)
 rintro q z rec ⟨rfl, hq⟩ ih
 rw [hs rec q hq]
 simp only [Int.toNat_natCast]
 cases q with
 | zero =>
  have h : ¬ ((decide (i ≤ 0) && p d[0]!) = true) := by simp; omega
  rw [if_neg h, scanDown]
 | succ q =>
  rw [scanDown]
  by_cases h : (decide (i ≤ q + 1) && p d[q + 1]!) = true
  ·rw [if_pos h, if_pos h, show q + 1 - 1 = q from rfl, ih q (st1 q) (by omega) ⟨rfl, by omega⟩]
   simp
  ·rw [if_neg h, if_neg h]
theorem Qgp (p : El → Bool) (d : Array El) (j i : Nat) (h : i ≤ j + 1) : scanUp p d j i ≤ j + 1 := (scanUp_spec p d j _ i rfl).2.1 h
theorem Qel (p : El → Bool) (d : Array El) (i j : Nat) (h : i ≤ j + 1) : i ≤ scanDown p d i j + 1 := (scanDown_spec p d i j).2.1 h
set_option maxHeartbeats 2000000 in
theorem Qkn (N : Nat) (l : List El) (a b p len : Nat) (hlen : l.length = len) (hap : a ≤ p) (hpb : p < b) (hb : b ≤ len) (hl : len ≤ 1000000000000) (hN : 1000000000000 < N) :
  Q3g N l len a b p = some ((partitionEqual ltU l.toArray a b p).2.toList, ((partitionEqual ltU l.toArray a b p).1 : Int)) := by
 unfold Q3g partitionEqual
 have fa : a < l.length := by omega
 have fp : p < l.length := by omega
 simp only [← hlen, inR' fa, inR' fp, cond_true, Nat.zero_add, Int.toNat_natCast, List.getElem?_eq_getElem fa, List.getElem?_eq_getElem fp, Option.bind_some, Qn fa fp, Q46 fa fp, Q6 (show a + 1 < 9223372036854775808 by omega), Qx (show 0 < b by omega) (show b < 9223372036854775808 by omega)]
 have hm0 : (swL l a p).length = len := by rw [Q33, hlen]
 rw [swA]
 generalize swL l a p = m0 at hm0
 rw [hlen]
 refine (Q3l (G := fun z => some ((partEqLoop ltU a z.1.1.toNat z.1.2.1.toNat z.2.2.2.1.toArray).2.toList, ((partEqLoop ltU a z.1.1.toNat z.1.2.1.toNat z.2.2.2.1.toArray).1 : Int))) (fun q z => ∃ (i j : Nat) (m : List El), z = (((i : Int), (j : Int), ()), (), (), m, ()) ∧ m.length = len ∧ a < i ∧ i ≤ j + 1 ∧ j < b ∧ q = j + 1 - i) ?_ N (b - 1 + 1 - (a + 1)) _ ⟨a + 1, b - 1, m0, rfl, hm0, by omega, by omega, by omega, rfl⟩ (by omega)).trans (by simp)
 rintro q z rec ⟨i, j, m, rfl, hm, hai, hij, hjb, rfl⟩ ih
 simp only [Int.toNat_natCast]
 rw [partEqLoop_eq]
 have ga : a < m.length := by omega
 have u1 := scanUp_ge (fun x => !ltU m.toArray[a]! x) m.toArray j i
 have w1 := (scanUp_spec (fun x => !ltU m.toArray[a]! x) m.toArray j _ i rfl).2.2.2
 have u2 := Qgp (fun x => !ltU m.toArray[a]! x) m.toArray j i hij
 refine (Qai _ fun k => up_eq (fun x => !ltU m.toArray[a]! x) m.toArray j (a + 1) k ?_ N (by omega) i hai).trans ?_
 ·intro rec1 i1 hi1
  by_cases h : i1 ≤ j
  ·have g1 : i1 < m.length := by omega
   simp only [dle h, cond_true, ← hm, inR' ga, inR' g1, Nat.zero_add, Int.toNat_natCast, List.getElem?_eq_getElem ga, List.getElem?_eq_getElem g1, Option.bind_some, Q2l, getA ga, getA g1, Q6 (show i1 + 1 < 9223372036854775808 by omega), decide_eq_true h, Bool.true_and]
   cases ltU m[a] m[i1] <;> rfl
  ·simp [dnle h, h]
 generalize scanUp (fun x => !ltU m.toArray[a]! x) m.toArray j i = i2 at u1 u2 w1 ⊢
 have v1 := scanDown_le (fun x => ltU m.toArray[a]! x) m.toArray i2 j
 have w2 := (scanDown_spec (fun x => ltU m.toArray[a]! x) m.toArray i2 j).2.2.2
 have v2 := Qel (fun x => ltU m.toArray[a]! x) m.toArray i2 j u2
 refine (Qai _ fun k => Qox (fun x => ltU m.toArray[a]! x) m.toArray i2 b (by omega) k ?_ N (by omega) j hjb).trans ?_
 ·intro rec1 j1 hj1
  by_cases h : i2 ≤ j1
  ·have g1 : j1 < m.length := by omega
   simp only [dle h, cond_true, ← hm, inR' ga, inR' g1, Nat.zero_add, Int.toNat_natCast, List.getElem?_eq_getElem ga, List.getElem?_eq_getElem g1, Option.bind_some, Q2l, getA ga, getA g1, Qx (show 0 < j1 by omega) (show j1 < 9223372036854775808 by omega), decide_eq_true h, Bool.true_and]
   cases ltU m[a] m[j1] <;> rfl
  ·simp [dnle h, h]
 generalize scanDown (fun x => ltU m.toArray[a]! x) m.toArray i2 j = j2 at v1 v2 w2 ⊢
 by_cases h : i2 > j2
 ·simp only [dlt h, cond_true, if_pos h]
 ·have hne : i2 < j2 := by
   rcases Nat.lt_or_ge i2 j2 with h3 | h3
   ·exact h3
   ·have e : j2 = i2 := by omega
    subst e
    have := w1 (by omega)
    have h4 := w2 (Nat.le_refl _) (by omega)
    generalize ltU m.toArray[a]! m.toArray[j2]! = v at this h4; cases v <;> simp at this h4
  have g1 : i2 < m.length := by omega
  have g2 : j2 < m.length := by omega
  have hr := ih (j2 - 1 + 1 - (i2 + 1)) ((((i2 + 1 : Nat) : Int), ((j2 - 1 : Nat) : Int), ()), (), (), swL m i2 j2, ()) (by omega) ⟨i2 + 1, j2 - 1, _, rfl, by rw [Q33, hm], by omega, by omega, by omega, rfl⟩
  simp only [Int.toNat_natCast] at hr
  simp only [dnlt h, cond_false, if_neg h, ← hm, inR' g1, inR' g2, cond_true, Nat.zero_add, Int.toNat_natCast, List.getElem?_eq_getElem g1, List.getElem?_eq_getElem g2, Option.bind_some, Qn g1 g2, Q46 g1 g2, Q6 (show i2 + 1 < 9223372036854775808 by omega), Qx (show 0 < j2 by omega) (show j2 < 9223372036854775808 by omega), hr, swA]
set_option maxHeartbeats 4000000 in
theorem Qr7 (N : Nat) (l : List El) (a b p len : Nat) (hlen : l.length = len) (hap : a ≤ p) (hpb : p < b) (hb : b ≤ len) (hl : len ≤ 1000000000000) (hN : 1000000000000 < N) :
  Q5b N l len a b p = some ((partition ltU l.toArray a b p).2.2.toList, ((partition ltU l.toArray a b p).1 : Int), (partition ltU l.toArray a b p).2.1) := by
 unfold Q5b partition
 have fa : a < l.length := by omega
 have fp : p < l.length := by omega
 simp only [← hlen, inR' fa, inR' fp, cond_true, Nat.zero_add, Int.toNat_natCast, List.getElem?_eq_getElem fa, List.getElem?_eq_getElem fp, Option.bind_some, Qn fa fp, Q46 fa fp, Q6 (show a + 1 < 9223372036854775808 by omega), Qx (show 0 < b by omega) (show b < 9223372036854775808 by omega)]
 have hm : (swL l a p).length = len := by rw [Q33, hlen]
 rw [swA]
 generalize swL l a p = m at hm
 rw [hlen]
 have ga : a < m.length := by omega
 have u1 := scanUp_ge (fun x => ltU x m.toArray[a]!) m.toArray (b - 1) (a + 1)
 have w1 := (scanUp_spec (fun x => ltU x m.toArray[a]!) m.toArray (b - 1) _ (a + 1) rfl).2.2.2
 have u2 := Qgp (fun x => ltU x m.toArray[a]!) m.toArray (b - 1) (a + 1) (by omega)
 refine (Qai _ fun k => up_eq (fun x => ltU x m.toArray[a]!) m.toArray (b - 1) (a + 1) k ?_ N (by omega) (a + 1) (Nat.le_refl _)).trans ?_
 ·intro rec1 i1 hi1
  by_cases h : i1 ≤ b - 1
  ·have g1 : i1 < m.length := by omega
   simp only [dle h, cond_true, ← hm, inR' ga, inR' g1, Nat.zero_add, Int.toNat_natCast, List.getElem?_eq_getElem ga, List.getElem?_eq_getElem g1, Option.bind_some, Q2l, getA ga, getA g1, Q6 (show i1 + 1 < 9223372036854775808 by omega), decide_eq_true h, Bool.true_and]
   cases ltU m[i1] m[a] <;> rfl
  ·simp [dnle h, h]
 generalize scanUp (fun x => ltU x m.toArray[a]!) m.toArray (b - 1) (a + 1) = i2 at u1 u2 w1 ⊢
 have v1 := scanDown_le (fun x => !ltU x m.toArray[a]!) m.toArray i2 (b - 1)
 have w2 := (scanDown_spec (fun x => !ltU x m.toArray[a]!) m.toArray i2 (b - 1)).2.2.2
 have v2 := Qel (fun x => !ltU x m.toArray[a]!) m.toArray i2 (b - 1) u2
 refine (Qai _ fun k => Qox (fun x => !ltU x m.toArray[a]!) m.toArray i2 b (by omega) k ?_ N (by omega) (b - 1) (by omega)).trans ?_
 ·intro rec1 j1 hj1
  by_cases h : i2 ≤ j1
  ·have g1 : j1 < m.length := by omega
   simp only [dle h, cond_true, ← hm, inR' ga, inR' g1, Nat.zero_add, Int.toNat_natCast, List.getElem?_eq_getElem ga, List.getElem?_eq_getElem g1, Option.bind_some, Q2l, getA ga, getA g1, Qx (show 0 < j1 by omega) (show j1 < 9223372036854775808 by omega), decide_eq_true h, Bool.true_and]
   cases ltU m[j1] m[a] <;> rfl
  ·simp [dnle h, h]
 generalize scanDown (fun x => !ltU x m.toArray[a]!) m.toArray i2 (b - 1) = j2 at v1 v2 w2 ⊢
 have gj : j2 < m.length := by omega
 by_cases h : i2 > j2
 ·simp only [dlt h, cond_true, if_pos h, ← hm, inR' ga, inR' gj, Nat.zero_add, Int.toNat_natCast, List.getElem?_eq_getElem ga, List.getElem?_eq_getElem gj, Option.bind_some, Qn gj ga, Q46 gj ga, swA]
 ·have hne : i2 < j2 := by
   rcases Nat.lt_or_ge i2 j2 with h3 | h3
   ·exact h3
   ·have e : j2 = i2 := by omega
    subst e
    have := w1 (by omega)
    have h4 := w2 (Nat.le_refl _) (by omega)
    generalize ltU m.toArray[j2]! m.toArray[a]! = v at this h4; cases v <;> simp at this h4
  have gi : i2 < m.length := by omega
  simp only [dnlt h, cond_false, if_neg h, ← hm, inR' gi, inR' gj, cond_true, Nat.zero_add, Int.toNat_natCast, List.getElem?_eq_getElem gi, List.getElem?_eq_getElem gj, Option.bind_some, Qn gi gj, Q46 gi gj, Q6 (show i2 + 1 < 9223372036854775808 by omega), Qx (show 0 < j2 by omega) (show j2 < 9223372036854775808 by omega), swA]
  rw [hm]
  have hm1 : (swL m i2 j2).length = len := by rw [Q33, hm]
  generalize swL m i2 j2 = m1 at hm1
  refine Qjl (fun z => ∃ (j : Nat) (m : List El), z = (((j : Int), ()), (), (), m, ()) ∧ m.length = len ∧ a ≤ j ∧ j < b) (fun z => some ((swp z.2.2.2.1.toArray z.1.1.toNat a).toList, ((z.1.1.toNat : Nat) : Int), false)) ?_ ?_
  ·rintro z ⟨j, m3, rfl, hm3, haj, hjb⟩
   have g1 : a < m3.length := by omega
   have g2 : j < m3.length := by omega
   simp only [← hm3, inR' g1, inR' g2, cond_true, Nat.zero_add, Int.toNat_natCast, List.getElem?_eq_getElem g1, List.getElem?_eq_getElem g2, Option.bind_some, Qn g2 g1, Q46 g2 g1, swA]
  ·intro k hk
   refine (Q3l (G := fun z => some ((swp (partLoop ltU a z.1.1.toNat z.1.2.1.toNat z.2.2.2.1.toArray).2 (partLoop ltU a z.1.1.toNat z.1.2.1.toNat z.2.2.2.1.toArray).1 a).toList, ((partLoop ltU a z.1.1.toNat z.1.2.1.toNat z.2.2.2.1.toArray).1 : Int), false)) (fun q z => ∃ (i j : Nat) (m : List El), z = (((i : Int), (j : Int), ()), (), (), m, ()) ∧ m.length = len ∧ a < i ∧ i ≤ j + 1 ∧ j < b ∧ q = j + 1 - i) ?_ N (j2 - 1 + 1 - (i2 + 1)) _ ⟨i2 + 1, j2 - 1, m1, rfl, hm1, by omega, by omega, by omega, rfl⟩ (by omega)).trans (by simp)
   rintro q z rec ⟨i, j, m, rfl, hm, hai, hij, hjb, rfl⟩ ih
   simp only [Int.toNat_natCast]
   rw [partLoop_eq]
   have ga : a < m.length := by omega
   have u1 := scanUp_ge (fun x => ltU x m.toArray[a]!) m.toArray j i
   have w1 := (scanUp_spec (fun x => ltU x m.toArray[a]!) m.toArray j _ i rfl).2.2.2
   have u2 := Qgp (fun x => ltU x m.toArray[a]!) m.toArray j i hij
   refine (Qai _ fun k => up_eq (fun x => ltU x m.toArray[a]!) m.toArray j (a + 1) k ?_ N (by omega) i hai).trans ?_
   ·intro rec1 i1 hi1
    by_cases h : i1 ≤ j
    ·have g1 : i1 < m.length := by omega
     simp only [dle h, cond_true, ← hm, inR' ga, inR' g1, Nat.zero_add, Int.toNat_natCast, List.getElem?_eq_getElem ga, List.getElem?_eq_getElem g1, Option.bind_some, Q2l, getA ga, getA g1, Q6 (show i1 + 1 < 9223372036854775808 by omega), decide_eq_true h, Bool.true_and]
     cases ltU m[i1] m[a] <;> rfl
    ·simp [dnle h, h]
   generalize scanUp (fun x => ltU x m.toArray[a]!) m.toArray j i = i3 at u1 u2 w1 ⊢
   have v1 := scanDown_le (fun x => !ltU x m.toArray[a]!) m.toArray i3 j
   have w2 := (scanDown_spec (fun x => !ltU x m.toArray[a]!) m.toArray i3 j).2.2.2
   have v2 := Qel (fun x => !ltU x m.toArray[a]!) m.toArray i3 j u2
   refine (Qai _ fun k => Qox (fun x => !ltU x m.toArray[a]!) m.toArray i3 b (by omega) k ?_ N (by omega) j hjb).trans ?_
   ·intro rec1 j1 hj1
    by_cases h : i3 ≤ j1
    ·have g1 : j1 < m.length := by omega
     simp only [dle h, cond_true, ← hm, inR' ga, inR' g1, Nat.zero_add, Int.toNat_natCast, List.getElem?_eq_getElem ga, List.getElem?_eq_getElem g1, Option.bind_some, Q2l, getA ga, getA g1, Qx (show 0 < j1 by omega) (show j1 < 9223372036854775808 by omega), decide_eq_true h, Bool.true_and]
     cases ltU m[j1] m[a] <;> rfl
    ·simp [dnle h, h]
   generalize scanDown (fun x => !ltU x m.toArray[a]!) m.toArray i3 j = j3 at v1 v2 w2 ⊢
   by_cases h : i3 > j3
   ·simp only [dlt h, cond_true, if_pos h]
    refine (hk (((j3 : Int), ()), (), (), m, ()) ⟨j3, m, rfl, hm, by omega, by omega⟩).trans ?_
    simp
   ·have hne : i3 < j3 := by
     rcases Nat.lt_or_ge i3 j3 with h3 | h3
     ·exact h3
     ·have e : j3 = i3 := by omega
      subst e
      have := w1 (by omega)
      have h4 := w2 (Nat.le_refl _) (by omega)
      generalize ltU m.toArray[j3]! m.toArray[a]! = v at this h4; cases v <;> simp at this h4
    have g1 : i3 < m.length := by omega
    have g2 : j3 < m.length := by omega
    have hr := ih (j3 - 1 + 1 - (i3 + 1)) ((((i3 + 1 : Nat) : Int), ((j3 - 1 : Nat) : Int), ()), (), (), swL m i3 j3, ()) (by omega) ⟨i3 + 1, j3 - 1, _, rfl, by rw [Q33, hm], by omega, by omega, by omega, rfl⟩
    simp only [Int.toNat_natCast] at hr
    simp only [dnlt h, cond_false, if_neg h, ← hm, inR' g1, inR' g2, cond_true, Nat.zero_add, Int.toNat_natCast, List.getElem?_eq_getElem g1, List.getElem?_eq_getElem g2, Option.bind_some, Qn g1 g2, Q46 g1 g2, Q6 (show i3 + 1 < 9223372036854775808 by omega), Qx (show 0 < j3 by omega) (show j3 < 9223372036854775808 by omega), hr, swA]
set_option maxHeartbeats 1000000 in
set_option maxHeartbeats 1000000 in
theorem Qm4 (N : Nat) (l : List El) (a b len : Nat) (hab : a < b) (hlen : l.length = len) (hb : b ≤ len) (hl : len ≤ 1000000000000) (hN : 1000000000000 < N) :
  ∃ l', Q2x N l len a b = some (l', ()) ∧ PermL a b l l' := by
 suffices H : ∃ r, Q2x N l len a b = some r ∧ ∃ l', r = (l', ()) ∧ PermL a b l l' by
  obtain ⟨r, h1, l', rfl, h2⟩ := H
  exact ⟨l', h1, h2⟩
 unfold Q2x
 simp only [Q5o (show a ≤ b by omega) (show b < 9223372036854775808 by omega)]
 by_cases h8 : 8 ≤ b - a
 ·have d8 : decide ((8 : Int) ≤ ((b - a : Nat) : Int)) = true := by simp; omega
  obtain ⟨m, e, m1, m2⟩ := Q113 N (b - a) (by omega) (by omega)
  simp only [d8, cond_true, e, Option.bind_some]
  have e4 : ((b - a : Nat) : Int).tdiv 4 = (((b - a) / 4 : Nat) : Int) := by
   rw [Int.tdiv_eq_ediv_of_nonneg (by omega)]; omega
  have e2 : IntKind.i64.wrap ((((b - a) / 4 : Nat) : Int) * 2) = (((b - a) / 4 * 2 : Nat) : Int) := by
   rw [show (((b - a) / 4 : Nat) : Int) * 2 = (((b - a) / 4 * 2 : Nat) : Int) by omega, Q5h (by omega)]
  have eM : IntKind.u64.wrap ((m : Int) - 1) = ((m - 1 : Nat) : Int) := by
   rw [show (m : Int) - 1 = ((m - 1 : Nat) : Int) by omega, Qgb (by omega)]
  rw [e4, Q5h (show (b - a) / 4 < 9223372036854775808 by omega), e2, natA (show a + (b - a) / 4 * 2 ≤ 4000000000000 by omega)]
  have hq : (b - a) / 4 * 2 ≤ b - a - 2 := by omega
  have hq2 : 2 ≤ (b - a) / 4 * 2 := by omega
  generalize (b - a) / 4 * 2 = v at hq hq2
  rw [Qx (show 0 < a + v by omega) (by omega), Q6 (show a + v + 1 < 9223372036854775808 by omega)]
  simp only [eM]
  refine Q5f (Q := fun r : List El × Unit => ∃ l', r = (l', ()) ∧ PermL a b l l') (fun q z => ∃ (i : Nat) (s : Int) (m : List El), z = (((i : Int), ()), ((s, ()), ()), (), m, ()) ∧ a ≤ i ∧ i ≤ a + v + 2 ∧ q = a + v + 2 - i ∧ PermL a b l m) ?_ N (a + v + 2 - (a + v - 1)) _
   ⟨a + v - 1, _, l, rfl, by omega, by omega, rfl, .refl _ _ _⟩ (by omega)
  rintro q z rec ⟨i, s, l1, rfl, h1, h2, rfl, hp⟩ ih
  have hl1 : l1.length = len := by rw [hp.len, hlen]
  by_cases hi : i ≤ a + v + 1
  ·simp only [dle hi, cond_true, Q3x, Option.bind_some]
   generalize hs : bits BinOp.xor IntKind.u64 (bits BinOp.xor IntKind.u64 (bits BinOp.xor IntKind.u64 s (IntKind.u64.wrap (s * 8192))) ((bits BinOp.xor IntKind.u64 s (IntKind.u64.wrap (s * 8192))).fdiv 128)) (IntKind.u64.wrap (bits BinOp.xor IntKind.u64 (bits BinOp.xor IntKind.u64 s (IntKind.u64.wrap (s * 8192))) ((bits BinOp.xor IntKind.u64 s (IntKind.u64.wrap (s * 8192))).fdiv 128) * 131072)) = s'
   obtain ⟨o, eo, ho⟩ := Q11g s' (m - 1) (by omega)
   simp only [eo, Q5h (show o < 9223372036854775808 by omega)]
   refine Q8s (fun z => ∃ (o : Nat), z = (((o : Int), ()), (), (), ()) ∧ o < b - a) ?_ ?_
   ·rintro z ⟨o, rfl, ho⟩
    have gi : i < l1.length := by omega
    have go : a + o < l1.length := by omega
    simp only [natA (show a + o ≤ 4000000000000 by omega), ← hl1, inR' gi, inR' go, cond_true, Nat.zero_add, Int.toNat_natCast, List.getElem?_eq_getElem gi, List.getElem?_eq_getElem go, Option.bind_some, Qn gi go, Q46 gi go, Q6 (show i + 1 < 9223372036854775808 by omega)]
    exact ih (a + v + 2 - (i + 1)) _ (by omega) ⟨i + 1, _, swL l1 i (a + o), rfl, by omega, by omega, rfl, hp.trans (.swap h1 (by omega) (by omega) (by omega) (by omega))⟩
   ·intro k hk
    by_cases ho2 : b - a ≤ o
    ·simp only [dle ho2, cond_true, Q5o ho2 (show o < 9223372036854775808 by omega)]
     exact hk _ ⟨o - (b - a), rfl, by omega⟩
    ·simp only [dnle ho2, cond_false]
     exact hk _ ⟨o, rfl, by omega⟩
  ·simp only [dnle hi, cond_false]
   exact ⟨_, rfl, l1, rfl, hp⟩
 ·have d8 : decide ((8 : Int) ≤ ((b - a : Nat) : Int)) = false := by simp; omega
  simp only [d8, cond_false]
  exact ⟨_, rfl, l, rfl, .refl _ _ _⟩
theorem Qdy : SWO (ltU (El := El)) := OrdS.swo
def Qdn (a b : Nat) (l : List El) : Prop := SortedIn ltU a b l.toArray
def Qa0 (a b : Nat) (l : List El) : Prop := Below ltU a b l.toArray
def SQ (A B : Nat) (l : List El) (r : List El × Unit) : Prop := ∃ l', r = (l', ()) ∧ PermL A B l l' ∧ Qdn A B l'
def Fin (A B : Nat) (l : List El) (a b : Nat) (m : List El) : Prop := ∀ R, PermL a b m R → Qdn a b R → PermL A B l R ∧ Qdn A B R
theorem PermL.below {a b : Nat} {l m : List El} (h : PermL a b l m) (hb : b ≤ l.length) (hB : Qa0 a b l) : Qa0 a b m :=
 Below.perm (α := El) hB (by simpa using hb) h
theorem Qn6 (l : List El) (a b : Nat) (hab : a ≤ b) (hb : b ≤ l.length) : PermL a b l (insertionSort ltU l.toArray a b).toList ∧ Qdn a b (insertionSort ltU l.toArray a b).toList := by
 have := insertionSort_holds (lt := ltU) Qdy l.toArray a b hab (by simpa using hb)
 exact ⟨this.1, this.2⟩
theorem Qwq (l : List El) (a b : Nat) (hab : a ≤ b) (hb : b ≤ l.length) : PermL a b l (heapSort ltU l.toArray a b).toList ∧ Qdn a b (heapSort ltU l.toArray a b).toList := by
 have := heapSort_holds (lt := ltU) Qdy l.toArray a b hab (by simpa using hb)
 exact ⟨this.1, this.2⟩
theorem Qqw (l : List El) (a b : Nat) (hab : a < b) (hb : b ≤ l.length) (hB : Qa0 a b l) : PermL a b l (partialInsertionSort ltU l.toArray a b).1.toList ∧ ((partialInsertionSort ltU l.toArray a b).2 = true → Qdn a b (partialInsertionSort ltU l.toArray a b).1.toList) := by
 have := partialInsertionSort_holds (lt := ltU) Qdy l.toArray a b hab (by simpa using hb) hB
 exact ⟨this.1, this.2⟩
section
variable {N len : Nat} {G : Nat → List El → Nat → Int → Int → Int → Option (List El × Unit)}
theorem Qwz (A B : Nat) (l : List El) (rec : (Int × Int × Int × Bool × Bool × Unit) × Unit × Unit × List El × Unit → Option (List El × Unit)) (H : List El → Nat → Int → Int → Int → Option (List El × Unit))
  (a b p : Nat) (lim : Int) (m : List El) (hm : m.length = len) (hap : a ≤ p) (hpb : p < b) (hb : b ≤ len) (hl : len ≤ 1000000000000) (hN : 1000000000000 < N) (hB : Qa0 a b m) (hF : Fin A B l a b m)
  (ih : ∀ (a' b' : Nat) (lim' : Int) (wb wp : Bool) (m' : List El), b' - a' < b - a → m'.length = len → a' ≤ b' → b' ≤ len → Qa0 a' b' m' → Fin A B l a' b' m' → ∃ r, rec (((a' : Int), (b' : Int), lim', wb, wp, ()), (), (), m', ()) = some r ∧ SQ A B l r)
  (hH : ∀ (a' b' : Nat) (lim' : Int) (m' : List El), b' - a' < b - a → m'.length = len → a' ≤ b' → b' ≤ len → Qa0 a' b' m' → ∃ r, H m' len a' b' lim' = some r ∧ SQ a' b' m' r) :
  ∃ r, (Option.bind (Q5b N m len a b p) fun (y : List El × Int × Bool) =>
   bif decide (IntKind.i64.wrap (y.snd.fst - (a : Int)) < IntKind.i64.wrap ((b : Int) - y.snd.fst)) then
    (H y.fst len a y.snd.fst lim).bind fun (y_1 : List El × Unit) =>
     rec ((IntKind.i64.wrap (y.snd.fst + 1), (b : Int), lim, decide (IntKind.i64.wrap ((IntKind.i64.wrap ((b : Int) - (a : Int))).tdiv 8) ≤ IntKind.i64.wrap (y.snd.fst - (a : Int))), y.snd.snd, ()), (), (), y_1.fst, ())
   else
    (H y.fst len (IntKind.i64.wrap (y.snd.fst + 1)) b lim).bind fun (y_1 : List El × Unit) =>
     rec (((a : Int), y.snd.fst, lim, decide (IntKind.i64.wrap ((IntKind.i64.wrap ((b : Int) - (a : Int))).tdiv 8) ≤ IntKind.i64.wrap ((b : Int) - y.snd.fst)), y.snd.snd, ()), (), (), y_1.fst, ())) = some r ∧ SQ A B l r := by
 rw [Qr7 N m a b p len hm hap hpb hb hl hN, Option.bind_some]
 have hbm : b ≤ m.toArray.size := by simp; omega
 obtain ⟨h1, h2, hs, hBa, hBr, hL, hR⟩ := round_part (lt := ltU) Qdy (partition_holds ltU) (d3 := m.toArray) (a := a) (b := b) (pivot := p) (mid := (partition ltU m.toArray a b p).1) (ap := (partition ltU m.toArray a b p).2.1) (d4 := (partition ltU m.toArray a b p).2.2) hap hpb hbm hB rfl
 generalize (partition ltU m.toArray a b p).1 = mid at *
 generalize (partition ltU m.toArray a b p).2.1 = ap at *
 generalize (partition ltU m.toArray a b p).2.2 = d4 at *
 have hs4 : d4.toList.length = len := by rw [Array.length_toList, hs]; simpa using hm
 simp only [Q5o (show a ≤ mid by omega) (show mid < 9223372036854775808 by omega), Q5o (show mid ≤ b by omega) (show b < 9223372036854775808 by omega), Q6 (show mid + 1 < 9223372036854775808 by omega)]
 by_cases hlt : mid - a < b - mid
 ·simp only [dlt hlt, cond_true]
  obtain ⟨r, e, l', rfl, q1, q2⟩ := hH a mid lim d4.toList (by omega) hs4 h1 (by omega) hBa
  rw [e, Option.bind_some]
  obtain ⟨hB2, hfin⟩ := hL l'.toArray q1 q2
  refine ih (mid + 1) b lim _ _ l' (by omega) (by rw [q1.len, hs4]) (by omega) hb hB2 fun R hR1 hR2 => ?_
  obtain ⟨c1, c2⟩ := hfin R.toArray hR1 hR2
  exact hF R c1 c2
 ·simp only [dnlt hlt, cond_false]
  obtain ⟨r, e, l', rfl, q1, q2⟩ := hH (mid + 1) b lim d4.toList (by omega) hs4 (by omega) hb hBr
  rw [e, Option.bind_some]
  obtain ⟨hB2, hfin⟩ := hR l'.toArray q1 q2
  refine ih a mid lim _ _ l' (by omega) (by rw [q1.len, hs4]) h1 (by omega) hB2 fun R hR1 hR2 => ?_
  obtain ⟨c1, c2⟩ := hfin R.toArray hR1 hR2
  exact hF R c1 c2
end
set_option maxHeartbeats 2000000 in
theorem Q12e (N len : Nat) (hl : len ≤ 1000000000000) (hN : 1000000000000 < N) : ∀ (n : Nat) (l : List El) (a b : Nat) (lim : Int), b - a < n → l.length = len → a ≤ b → b ≤ len → Qa0 a b l →
  ∃ r, recG (Q44 (El := El) N) n l len a b lim = some r ∧ SQ a b l r := by
 intro n
 induction n with
 | zero => intro l a b lim h; omega
 | succ n ihn =>
  intro l A B lim0 hn hlen hAB hBl hBel
  show ∃ r, Q44 (El := El) N (recG (Q44 (El := El) N) n) l len A B lim0 = some r ∧ SQ A B l r
  generalize hH : recG (Q44 (El := El) N) n = H at *
  unfold Q44
  refine Q5f (Q := SQ A B l) (fun q z => ∃ (a b : Nat) (lim : Int) (wb wp : Bool) (m : List El), z = (((a : Int), (b : Int), lim, wb, wp, ()), (), (), m, ()) ∧ m.length = len ∧ a ≤ b ∧ b ≤ len ∧ b - a ≤ B - A ∧ Qa0 a b m ∧ Fin A B l a b m ∧ q = b - a) ?_ N (B - A) _
   ⟨A, B, lim0, true, true, l, rfl, hlen, hAB, hBl, Nat.le_refl _, hBel, fun R h1 h2 => ⟨h1, h2⟩, rfl⟩ (by omega)
  rintro q z rec ⟨a, b, lim, wb, wp, m, rfl, hm, hab, hb, hle, hbel, hfin, rfl⟩ ih
  have ih' : ∀ (a' b' : Nat) (lim' : Int) (wb wp : Bool) (m' : List El), b' - a' < b - a → m'.length = len → a' ≤ b' → b' ≤ len → Qa0 a' b' m' → Fin A B l a' b' m' → ∃ r, rec (((a' : Int), (b' : Int), lim', wb, wp, ()), (), (), m', ()) = some r ∧ SQ A B l r :=
   fun a' b' lim' wb wp m' h1 h2 h3 h4 h5 h6 => ih (b' - a') _ h1 ⟨a', b', lim', wb, wp, m', rfl, h2, h3, h4, by omega, h5, h6, rfl⟩
  have hH' : ∀ (a' b' : Nat) (lim' : Int) (m' : List El), b' - a' < b - a → m'.length = len → a' ≤ b' → b' ≤ len → Qa0 a' b' m' → ∃ r, H m' len a' b' lim' = some r ∧ SQ a' b' m' r :=
   fun a' b' lim' m' h1 h2 h3 h4 h5 => ihn m' a' b' lim' (by omega) h2 h3 h4 h5
  simp only [Q5o hab (show b < 9223372036854775808 by omega)]
  by_cases h12 : b - a ≤ 12
  ·have d : decide (((b - a : Nat) : Int) ≤ 12) = true := by simp; omega
   simp only [d, cond_true, Qm1 N m a b len hm hab hb hl hN, Option.bind_some]
   obtain ⟨f1, f2⟩ := Qn6 m a b hab (by omega)
   obtain ⟨c1, c2⟩ := hfin _ f1 f2
   exact ⟨_, rfl, _, rfl, c1, c2⟩
  have d : decide (((b - a : Nat) : Int) ≤ 12) = false := by simp; omega
  simp only [d, cond_false]
  cases hz : lim == 0 with
  | true =>
   simp only [cond_true, Que N m a b len hm (by omega) hb hl hN, Option.bind_some]
   obtain ⟨f1, f2⟩ := Qwq m a b hab (by omega)
   obtain ⟨c1, c2⟩ := hfin _ f1 f2
   exact ⟨_, rfl, _, rfl, c1, c2⟩
  | false =>
   simp only [cond_false]
   have hlt : a < b := by omega
   refine Q8s (fun z => ∃ (lim : Int) (m1 : List El), z = ((lim, ()), (), (), m1, ()) ∧ PermL a b m m1) ?_ ?_
   ·rintro z ⟨lim1, m1, rfl, p1⟩
    have l1 : m1.length = len := by rw [p1.len, hm]
    obtain ⟨p, h, e, ep1, ep2⟩ := choosePivot_eq N m1 a b hlt (by omega) (by omega)
    rw [l1] at e
    simp only [e, Option.bind_some]
    refine Q8s (fun z => ∃ (p : Nat) (h : Int) (m2 : List El), z = (((p : Int), h, ()), (), (), m2, ()) ∧ a ≤ p ∧ p < b ∧ PermL a b m m2) ?_ ?_
    ·rintro z ⟨p, h, m2, rfl, ep1, ep2, p2⟩
     have l2 : m2.length = len := by rw [p2.len, hm]
     have B2 := p2.below (by omega) hbel
     refine Q8s (fun z => ∃ (m3 : List El), z = ((), (), (), m3, ()) ∧ PermL a b m m3) ?_ ?_
     ·rintro z ⟨m3, rfl, p3⟩
      have l3 : m3.length = len := by rw [p3.len, hm]
      have B3 := p3.below (by omega) hbel
      have F3 : Fin A B l a b m3 := fun R h1 h2 => hfin R (p3.trans h1) h2
      have hpart := Qwz A B l rec H a b p lim1 m3 l3 ep1 ep2 hb hl hN B3 F3 ih' hH'
      simp only [Q5o hab (show b < 9223372036854775808 by omega)] at hpart
      by_cases h0 : 0 < a
      ·have d0 : decide ((0 : Int) < (a : Int)) = true := by simp; omega
       have g1 : a - 1 < m3.length := by omega
       have g2 : p < m3.length := by omega
       simp only [d0, cond_true, Qx h0 (show a < 9223372036854775808 by omega), ← l3, inR' g1, inR' g2, Nat.zero_add, Int.toNat_natCast, List.getElem?_eq_getElem g1, List.getElem?_eq_getElem g2, Option.bind_some, Q2l]
       rw [l3]
       cases hlt2 : ltU m3[a - 1] m3[p] with
       | true =>
        simp only [Bool.not_true, cond_false]
        exact hpart
       | false =>
        simp only [Bool.not_false, cond_true, Qkn N m3 a b p len l3 ep1 ep2 hb hl hN, Option.bind_some]
        have hnl : ltU m3.toArray[a - 1]! m3.toArray[p]! = false := by rw [getA g1, getA g2]; exact hlt2
        obtain ⟨c1, c2, c3, c4, c5⟩ := round_eq (lt := ltU) Qdy (partitionEqual_holds ltU) (d3 := m3.toArray) (a := a) (b := b) (pivot := p) (mid := (partitionEqual ltU m3.toArray a b p).1) (d4 := (partitionEqual ltU m3.toArray a b p).2) h0 ep1 ep2 (by simp; omega) B3 hnl rfl
        refine ih' _ b lim1 wb wp _ (by omega) (by rw [Array.length_toList, c3]; simpa using l3) c2 hb c4 fun R hR1 hR2 => ?_
        obtain ⟨e1, e2⟩ := c5 R.toArray hR1 hR2
        exact F3 R e1 e2
      ·have d0 : decide ((0 : Int) < (a : Int)) = false := by simp; omega
       simp only [d0, cond_false]
       exact hpart
     ·intro k hk
      have k2 := hk ((), (), (), m2, ()) ⟨m2, rfl, p2⟩
      cases wb with
      | false => simp only [cond_false]; exact k2
      | true =>
       cases wp with
       | false => simp only [cond_false, cond_true]; exact k2
       | true =>
        cases h == 1 with
        | false => simp only [cond_false, cond_true]; exact k2
        | true =>
         obtain ⟨f1, f2⟩ := Qqw m2 a b hlt (by omega) B2
         simp only [cond_true, Qev N m2 a b len l2 hlt hb hl hN, Option.bind_some]
         cases hx : (partialInsertionSort ltU m2.toArray a b).2 with
         | true =>
          simp only [cond_true]
          obtain ⟨c1, c2⟩ := hfin _ (p2.trans f1) (f2 hx)
          exact ⟨_, rfl, _, rfl, c1, c2⟩
         | false =>
          simp only [cond_false]
          exact hk _ ⟨_, rfl, p2.trans f1⟩
    ·intro k hk
     cases h == 2 with
     | false => simp only [cond_false]; exact hk _ ⟨p, h, m1, rfl, ep1, ep2, p1⟩
     | true =>
      obtain ⟨m2, e2, p2⟩ := Qo3 N m1 a b len hlt l1 hb hl hN
      simp only [cond_true, e2, Option.bind_some, Qx (show 0 < b by omega) (show b < 9223372036854775808 by omega), Q5o ep1 (show p < 9223372036854775808 by omega), Q5o (show p - a ≤ b - 1 by omega) (show b - 1 < 9223372036854775808 by omega)]
      exact hk _ ⟨b - 1 - (p - a), 1, m2, rfl, by omega, by omega, p1.trans p2⟩
   ·intro k hk
    cases wb with
    | true => simp only [Bool.not_true, cond_false]; exact hk _ ⟨lim, m, rfl, .refl _ _ _⟩
    | false =>
     obtain ⟨m1, e1, p1⟩ := Qm4 N m a b len hlt hm hb hl hN
     simp only [Bool.not_false, cond_true, e1, Option.bind_some]
     exact hk _ ⟨_, m1, rfl, p1⟩
def srt (l : List El) : List El := l.mergeSort (fun x y => !ltU y x)
theorem Sort_eq (N : Nat) (l : List El) (hl : l.length ≤ 1000000000000) (hN : 1000000000000 < N) : Qjc N l l.length = some (srt l, ()) := by
 unfold Qjc Qpz
 have fin : ∀ lim : Int, ∃ r, recG (Q44 (El := El) N) N l l.length 0 l.length lim = some r ∧ SQ 0 l.length l r :=
  fun lim => Q12e N l.length hl hN N l 0 l.length lim (by omega) rfl (by omega) (Nat.le_refl _) (.inl rfl)
 have hlen : ∃ y, F_math_bits_Len N (IntKind.u64.wrap (l.length : Int)) = some y := by
  rw [Qgb (by omega)]
  rcases Nat.eq_zero_or_pos l.length with h | h
  ·rw [h]; exact ⟨0, by kernel_rfl⟩
  ·obtain ⟨r, e, _⟩ := Qzn N l.length h (by omega)
   exact ⟨r, e⟩
 obtain ⟨y, e⟩ := hlen
 obtain ⟨r, e2, l', rfl, h1, h2⟩ := fin y
 rw [e, Option.bind_some]
 have e3 : recG (Q44 (El := El) N) N l l.length 0 (l.length : Int) y = some (l', ()) := e2
 rw [e3, Option.bind_some]
 have := sorted_unique_holds (lt := ltU) Qdy (fun x y h1 h2 => OrdS.anti x y h1 h2) l.toArray l'.toArray (show PermIn 0 l.toArray.size l.toArray l'.toArray by rw [List.size_toArray]; exact h1) (show SortedIn ltU 0 l.toArray.size l'.toArray by rw [List.size_toArray]; exact h2)
 simp only [List.toList_toArray] at this
 rw [this]
 rfl
end
end Go.Proofs.Xu
set_option linter.unusedVariables false
set_option linter.unusedSimpArgs false
set_option maxRecDepth 100000
namespace Go.Proofs.Xu
open Go Go.Xl Go.Ab Go.Proofs Go.Sort
theorem Q11w (N : Nat) (x y : Int) : Q35 N x y = some (decide (x < y)) := by
 simp only [Q35, Qm, cond_eq_ite, Option.bind_some]
 grind
theorem less8 (N : Nat) (x y : UInt8) : Q3j N x y = some (decide (x < y)) := by
 simp only [Q3j, Q4x, cond_eq_ite, Option.bind_some]
 grind
theorem lessS (N : Nat) (x y : List UInt8) : Q34 N x y = some (Op.bytesLess x y) := by
 simp only [Q34, Q3y, cond_eq_ite, Option.bind_some]
 grind
namespace S
theorem bytesLess_lt : ∀ x y : List UInt8, Op.bytesLess x y = decide (x < y)
 | [], [] => by simp [Op.bytesLess]
 | [], _ :: _ => by simp [Op.bytesLess]
 | _ :: _, [] => by simp [Op.bytesLess]
 | a :: r, b :: s => by
  simp only [Op.bytesLess, bytesLess_lt r s]
  by_cases h : a < b
  ·simp [h, List.cons_lt_cons_iff]
  ·by_cases h2 : b < a
   ·have : a ≠ b := fun e => by subst e; exact h h2
    simp [h, h2, List.cons_lt_cons_iff, this]
   ·have : a = b := UInt8.toNat_inj.1 (by rw [UInt8.lt_iff_toNat_lt] at h h2; omega)
    subst this
    simp [List.cons_lt_cons_iff, UInt8.lt_irrefl]
theorem bl_ltStr : Op.bytesLess = ltStr := by
 funext x y
 exact bytesLess_lt x y
end S
noncomputable instance ordI : OrdS Int where
 lt x y := decide (x < y)
 L := Q35 0
 dflt := 0
 hL := Q11w 0
 swo :=
  {irrefl := fun x => by simp
   trans := fun x y z h1 h2 => by
    simp only [decide_eq_true_eq] at *
    exact Int.lt_trans h1 h2
   ntrans := fun x y z h1 h2 => by
    simp only [decide_eq_false_iff_not] at *
    exact Int.not_lt.2 (Int.le_trans (Int.not_lt.1 h2) (Int.not_lt.1 h1)) }
 anti x y h1 h2 := by
  simp only [decide_eq_false_iff_not] at *
  exact Int.le_antisymm (Int.not_lt.1 h2) (Int.not_lt.1 h1)
noncomputable instance ordB : OrdS UInt8 where
 lt x y := decide (x < y)
 L := Q3j 0
 dflt := 0
 hL := less8 0
 swo :=
  {irrefl := fun x => by simp
   trans := fun x y z h1 h2 => by
    simp only [decide_eq_true_eq, UInt8.lt_iff_toNat_lt] at *
    exact Nat.lt_trans h1 h2
   ntrans := fun x y z h1 h2 => by
    simp only [decide_eq_false_iff_not, UInt8.lt_iff_toNat_lt] at *
    exact Nat.not_lt.2 (Nat.le_trans (Nat.not_lt.1 h2) (Nat.not_lt.1 h1)) }
 anti x y h1 h2 := by
  simp only [decide_eq_false_iff_not, UInt8.lt_iff_toNat_lt] at *
  exact UInt8.toNat_inj.1 (Nat.le_antisymm (Nat.not_lt.1 h2) (Nat.not_lt.1 h1))
noncomputable instance ordS : OrdS (List UInt8) where
 lt := Op.bytesLess
 L := Q34 0
 dflt := []
 hL := lessS 0
 swo := by rw [S.bl_ltStr]; exact swo_ltStr
 anti x y h1 h2 := by
  rw [S.bl_ltStr] at h1 h2
  simp only [ltStr, decide_eq_false_iff_not] at *
  exact List.le_antisymm (List.not_lt.1 h2) (List.not_lt.1 h1)
end Go.Proofs.Xu
set_option linter.unusedVariables false
set_option maxRecDepth 100000
namespace Go.Proofs.Xu
open Go Go.Xl Go.Ab Go.Proofs
noncomputable def F0_slices_insertionSortOrdered_uint64 (N : Nat) : FunA [.d (.int .i64), .d (.int .i64)] (Option (ResT (rkTys (.int .u64) []))) := fun (x x_1 : Int) => iter (fun (rec : (Int × Unit) × Unit × Unit × Unit
 → Option Unit) (z : (Int × Unit) × Unit × Unit × Unit) => bif decide (z.1.1 < x_1) then iter (fun (rec_1 : (Int × Unit) × Unit × Unit × Unit → Option Unit) (z_1 : (Int × Unit) × Unit × Unit × Unit) => Qj (fun (z
 : Unit × Unit × Unit × Unit) => (at? [] (IntKind.i64.wrap (z_1.1.1 - 1))).bind fun (e : Int) => (at? [] z_1.1.1).bind fun (e : Int) => (at? [] z_1.1.1).bind fun (e : Int) => none) fun (k : Unit × Unit × Unit
 × Unit → Option Unit) => bif decide (x < z_1.1.1) then (at? [] z_1.1.1).bind fun (e : Int) => (at? [] (IntKind.i64.wrap (z_1.1.1 - 1))).bind fun (e_1 : Int) => Option.bind (Q35 N e e_1) fun (y
 : Bool) => bif y then k ((), (), (), ()) else rec ((IntKind.i64.wrap (z.1.1 + 1), ()), (), (), ()) else rec ((IntKind.i64.wrap (z.1.1 + 1), ()), (), (), ())) N ((z.1.1, ()), (), (), ()) else some ()) N
 ((IntKind.i64.wrap (x + 1), ()), (), (), ())
theorem Q88 (N : Nat) : runO0 Try.prog [Q17 N] [] N Try.f107 (.seq .lf (.blk (.loop ⟨[(6, .d (.int .i64))], [], [0, 1, 2], [], [], []⟩ (.seq .lf (.seq (.blk (.seq .lf (.blk (.loop ⟨[(7, .d (.int .i64))], [], [0, 1, 2, 6], [], [], []⟩ (.join ⟨[], [], [0, 1, 2, 6, 7], [], [], []⟩ .lf .lf))))) .lf))))) (.int .u64) [.d (.int .i64), .d (.int .i64)] [] = F0_slices_insertionSortOrdered_uint64 N := by kernel_rfl
noncomputable def Q45 (N : Nat) : List ((.int .u64) : Ty).T → Nat → FunA [.d (.int .i64), .d (.int .i64)] (Option (List ((.int .u64) : Ty).T × ResO [])) := Q4q (El := Int) N
theorem Q8h (N : Nat) : runO Try.prog [Q17 N] [] N Try.f107 (.seq .lf (.blk (.loop ⟨[(6, .d (.int .i64))], [], [0, 1, 2], [], [], [(1, .arr (.int .u64))]⟩ (.seq .lf (.seq (.blk (.seq .lf (.blk (.loop ⟨[(7, .d (.int .i64))], [], [0, 1, 2, 6], [], [], [(1, .arr (.int .u64))]⟩ (.join ⟨[], [], [0, 1, 2, 6, 7], [1], [], []⟩ .lf .lf))))) .lf))))) (.int .u64) [.d (.int .i64), .d (.int .i64)] [] = Q45 N := by kernel_rfl
noncomputable def Q4b (N : Nat) : Ent Try.prog := mkO2 107 Try.f107 _ _ (.int .u64) [.d (.int .i64), .d (.int .i64)] [] (Q45 N) (F0_slices_insertionSortOrdered_uint64 N) mixed Try.func107 (.mk' Try.func107 rfl (by decide)) rfl (Q8h N) (Q88 N)
noncomputable def Q5t (N : Nat) : List ((.int .u64) : Ty).T → Nat → FunA [.d (.int .i64), .d (.int .i64), .d (.int .i64)] (Option (List ((.int .u64) : Ty).T × ResO [])) := Q7p (El :=
 Int) N
theorem Qar (N : Nat) : runO Try.prog [Q17 N] [] N Try.f140 (.seq .lf (.blk (.loop ⟨[(8, .d (.int .i64))], [], [0, 2, 3], [], [], [(1, .arr (.int .u64))]⟩ (.blk (.seq .lf (.seq .lf (.join ⟨[(9, .d (.int .i64))], [], [0, 2, 3, 8], [1], [], []⟩ .lf .lf))))))) (.int .u64) [.d (.int .i64), .d (.int .i64), .d (.int .i64)] [] = Q5t N := by kernel_rfl
noncomputable def Qay (N : Nat) : Ent Try.prog := mkO 140 Try.f140 _ (.int .u64) [.d (.int .i64), .d (.int .i64), .d (.int .i64)] [] (Q5t N) mixed Try.func140 (.mk' Try.func140 rfl (by decide)) rfl (Qar N)
noncomputable def Q5s (N : Nat) : List ((.int .u64) : Ty).T → Nat → FunA [.d (.int .i64), .d (.int .i64)] (Option (List ((.int .u64) : Ty).T × ResO [])) := Q9f (El := Int) N
theorem Qax (N : Nat) : runO Try.prog [Qay N] [] N Try.f108 (.seq .lf (.seq .lf (.seq .lf (.seq (.seq .lf (.blk (.loop ⟨[(9, .d (.int .i64))], [], [0, 6, 7, 8], [], [], [(1, .arr (.int .u64))]⟩ .lf))) (.seq .lf (.blk (.loop ⟨[(10, .d (.int .i64))], [], [0, 6, 7], [], [], [(1, .arr (.int .u64))]⟩ .lf))))))) (.int .u64) [.d (.int .i64), .d (.int .i64)] [] = Q5s N := by kernel_rfl
noncomputable def Q5v (N : Nat) : Ent Try.prog := mkO 108 Try.f108 _ (.int .u64) [.d (.int .i64), .d (.int .i64)] [] (Q5s N) mixed Try.func108 (.mk' Try.func108 rfl (by decide)) rfl (Qax N)
noncomputable def Q4j (N : Nat) : List ((.int .u64) : Ty).T → Nat → FunA [.d (.int .i64), .d (.int .i64)] (Option (List ((.int .u64) : Ty).T × ResO [])) := Q2x (El := Int) N
theorem Q8b (N : Nat) : runO Try.prog [Q60 N, Q6m N] [] N Try.f109 (.seq .lf (.seq .lf (.cond (.seq .lf (.seq .lf (.seq .lf (.blk (.loop ⟨[(9, .d (.int .i64))], [(1007, [.d (.int .u64)], some 163)], [0, 1, 6, 7, 8], [], [], [(1, .arr (.int .u64))]⟩ (.seq .lf (.seq (.blk (.seq .lf (.join ⟨[(10, .d (.int .i64))], [], [0, 1, 6, 7, 8, 9], [1, 1007], [], []⟩ .lf .lf))) .lf))))))) .lf))) (.int .u64) [.d (.int .i64), .d (.int .i64)] [] = Q4j N := by kernel_rfl
noncomputable def Q48 (N : Nat) : Ent Try.prog := mkO 109 Try.f109 _ (.int .u64) [.d (.int .i64), .d (.int .i64)] [] (Q4j N) mixed Try.func109 (.mk' Try.func109 rfl (by decide)) rfl (Q8b N)
@[reducible] def Q1s : CSp := ⟨[.os 1 (.int .u64), .d (.int .i64), .d (.int .i64), .p 2 0], [(2, [.d (.int .i64)], some 3)], [(1, .arr (.int .u64))], ⟨[(8, .d (.int .i64)), (9, .d (.int .i64))], [(2, [.d (.int .i64)], some 3)], [], [1], [], []⟩⟩
noncomputable def Q70 (N : Nat) : CSp.Fun Q1s (Option Q1s.out.T) := Q8c (El := Int) N
theorem Qbn (N : Nat) : runC Try.prog [Q17 N] [] N Try.f171 .lf Q1s = Q70 N := by kernel_rfl
noncomputable def Qbk (N : Nat) : Ent Try.prog := mkC 171 Try.f171 _ Q1s (Q70 N) mixed Try.func171 (.mk' Try.func171 rfl (by decide)) rfl rfl rfl (Qbn N)
@[reducible] def Q1p : CSp := ⟨[.os 1 (.int .u64), .d (.int .i64), .d (.int .i64), .d (.int .i64), .p 2 0], [(2, [.d (.int .i64)], some 3)], [(1, .arr (.int .u64))], ⟨[(10, .d (.int .i64))], [(2, [.d (.int .i64)], some 3)], [], [1], [], []⟩⟩
noncomputable def Q6z (N : Nat) : CSp.Fun Q1p (Option Q1p.out.T) := Q8x (El := Int) N
theorem Qbm (N : Nat) : runC Try.prog [Qbk N] [] N Try.f144 .lf Q1p = Q6z N := by kernel_rfl
noncomputable def Q6y (N : Nat) : Ent Try.prog := mkC 144 Try.f144 _ Q1p (Q6z N) mixed Try.func144 (.mk' Try.func144 rfl (by decide)) rfl rfl rfl (Qbm N)
@[reducible] def Q10 : CSp := ⟨[.os 1 (.int .u64), .d (.int .i64), .p 2 0], [(2, [.d (.int .i64)], some 3)], [(1, .arr (.int .u64))], ⟨[(6, .d (.int .i64))], [(2, [.d (.int .i64)], some 3)], [], [1], [], []⟩⟩
noncomputable def Q3p (N : Nat) : CSp.Fun Q10 (Option Q10.out.T) := Q1t (El := Int) N
theorem Q84 (N : Nat) : runC Try.prog [Q6y N] [] N Try.f143 .lf Q10 = Q3p N := by kernel_rfl
noncomputable def Q89 (N : Nat) : Ent Try.prog := mkC 143 Try.f143 _ Q10 (Q3p N) mixed Try.func143 (.mk' Try.func143 rfl (by decide)) rfl rfl rfl (Q84 N)
noncomputable def Q4y (N : Nat) : List ((.int .u64) : Ty).T → Nat → FunA [.d (.int .i64), .d (.int .i64)] (Option (List ((.int .u64) : Ty).T × ResO [.d (.int .i64), .d (.int .i64)])) :=
 Q61 (El := Int) N
theorem Q9k (N : Nat) : runO Try.prog [Q89 N, Q6y N] [] N Try.f110 (.seq .lf (.seq .lf (.seq .lf (.seq .lf (.seq .lf (.seq .lf (.join ⟨[(11, .d (.int .i64))], [(1009, [.d (.int .i64)], some 3)], [9], [], [], [(1, .arr (.int .u64))]⟩ .lf .lf))))))) (.int .u64) [.d (.int .i64), .d (.int .i64)] [.d (.int .i64), .d (.int .i64)] = Q4y N := by kernel_rfl
noncomputable def Q54 (N : Nat) : Ent Try.prog := mkO 110 Try.f110 _ (.int .u64) [.d (.int .i64), .d (.int .i64)] [.d (.int .i64), .d (.int .i64)] (Q4y N) mixed Try.func110 (.mk' Try.func110 rfl (by decide)) rfl (Q9k N)
noncomputable def Q4p (N : Nat) : List ((.int .u64) : Ty).T → Nat → FunA [.d (.int .i64), .d (.int .i64)] (Option (List ((.int .u64) : Ty).T × ResO [])) := Q3h (El := Int) N
theorem Q9h (N : Nat) : runO Try.prog [] [] N Try.f111 (.seq .lf (.seq .lf (.blk (.loop ⟨[(6, .d (.int .i64)), (7, .d (.int .i64))], [], [0], [], [], [(1, .arr (.int .u64))]⟩ .lf)))) (.int .u64) [.d (.int .i64), .d (.int .i64)] [] = Q4p N := by kernel_rfl
noncomputable def Q4o (N : Nat) : Ent Try.prog := mkO 111 Try.f111 _ (.int .u64) [.d (.int .i64), .d (.int .i64)] [] (Q4p N) mixed Try.func111 (.mk' Try.func111 rfl (by decide)) rfl (Q9h N)
noncomputable def Q28 (N : Nat) : List ((.int .u64) : Ty).T → Nat → FunA [.d (.int .i64), .d (.int .i64)] (Option (List ((.int .u64) : Ty).T × ResO [.d .bool])) :=
 Q1j (El := Int) N
theorem Q72 (N : Nat) : runO Try.prog [Q17 N] [] N Try.f112 (.seq .lf (.seq .lf (.seq (.seq .lf (.blk (.loop ⟨[(7, .d (.int .i64)), (8, .d (.int .i64))], [], [0, 1, 2], [], [], [(1, .arr (.int .u64))]⟩ (.seq .lf (.seq (.blk (.join ⟨[(7, .d (.int .i64))], [], [0, 1, 2, 8], [1], [], []⟩ (.blk (.loop ⟨[(7, .d (.int .i64))], [], [0, 1, 2, 8], [1], [], []⟩ .lf)) (.seq .lf (.seq .lf (.seq .lf (.join ⟨[], [], [0, 1, 2, 7, 8], [], [], [(1, .arr (.int .u64))]⟩ (.seq .lf (.cond (.seq .lf (.blk (.loop ⟨[(9, .d (.int .i64))], [], [0, 1, 2, 7, 8], [], [], [(1, .arr (.int .u64))]⟩ .lf))) .lf)) (.seq .lf (.cond (.seq .lf (.blk (.loop ⟨[(10, .d (.int .i64))], [], [0, 1, 2, 7, 8], [], [], [(1, .arr (.int .u64))]⟩ .lf))) .lf)))))))) .lf))))) .lf))) (.int .u64) [.d (.int .i64), .d (.int .i64)] [.d .bool] = Q28 N := by kernel_rfl
noncomputable def Q2a (N : Nat) : Ent Try.prog := mkO 112 Try.f112 _ (.int .u64) [.d (.int .i64), .d (.int .i64)] [.d .bool] (Q28 N) mixed Try.func112 (.mk' Try.func112 rfl (by decide)) rfl (Q72 N)
noncomputable def Q3t (N : Nat) : List ((.int .u64) : Ty).T → Nat → FunA [.d (.int .i64), .d (.int .i64), .d (.int .i64)] (Option (List ((.int .u64) : Ty).T × ResO [.d (.int .i64)])) :=
 Q3g (El := Int) N
theorem Q85 (N : Nat) : runO Try.prog [Q17 N] [] N Try.f114 (.seq .lf (.seq .lf (.seq .lf (.seq (.blk (.loop ⟨[(9, .d (.int .i64)), (10, .d (.int .i64))], [], [0, 1], [], [], [(1, .arr (.int .u64))]⟩ (.blk (.join ⟨[(9, .d (.int .i64))], [], [0, 1, 10], [1], [], []⟩ (.blk (.loop ⟨[(9, .d (.int .i64))], [], [0, 1, 10], [1], [], []⟩ .lf)) (.join ⟨[(10, .d (.int .i64))], [], [0, 1, 9], [1], [], []⟩ (.blk (.loop ⟨[(10, .d (.int .i64))], [], [0, 1, 9], [1], [], []⟩ .lf)) .lf))))) .lf)))) (.int .u64) [.d (.int .i64), .d (.int .i64), .d (.int .i64)] [.d (.int .i64)] = Q3t N := by kernel_rfl
noncomputable def Q3s (N : Nat) : Ent Try.prog := mkO 114 Try.f114 _ (.int .u64) [.d (.int .i64), .d (.int .i64), .d (.int .i64)] [.d (.int .i64)] (Q3t N) mixed Try.func114 (.mk' Try.func114 rfl (by decide)) rfl (Q85 N)
noncomputable def Q5k (N : Nat) : List ((.int .u64) : Ty).T → Nat → FunA [.d (.int .i64), .d (.int .i64), .d (.int .i64)] (Option (List ((.int .u64) : Ty).T × ResO [.d (.int .i64), .d
 .bool])) := Q5b (El := Int) N
theorem Qa5 (N : Nat) : runO Try.prog [Q17 N] [] N Try.f115 (.seq .lf (.seq .lf (.seq .lf (.join ⟨[(10, .d (.int .i64))], [], [0, 1, 11], [1], [], []⟩ (.blk (.loop ⟨[(10, .d (.int .i64))], [], [0, 1, 11], [1], [], []⟩ .lf)) (.join ⟨[(11, .d (.int .i64))], [], [0, 1, 10], [1], [], []⟩ (.blk (.loop ⟨[(11, .d (.int .i64))], [], [0, 1, 10], [1], [], []⟩ .lf)) (.seq .lf (.seq .lf (.seq .lf (.seq .lf (.join ⟨[(11, .d (.int .i64))], [], [0, 1], [], [], [(1, .arr (.int .u64))]⟩ (.blk (.loop ⟨[(10, .d (.int .i64)), (11, .d (.int .i64))], [], [0, 1], [], [], [(1, .arr (.int .u64))]⟩ (.blk (.join ⟨[(10, .d (.int .i64))], [], [0, 1, 11], [1], [], []⟩ (.blk (.loop ⟨[(10, .d (.int .i64))], [], [0, 1, 11], [1], [], []⟩ .lf)) (.join ⟨[(11, .d (.int .i64))], [], [0, 1, 10], [1], [], []⟩ (.blk (.loop ⟨[(11, .d (.int .i64))], [], [0, 1, 10], [1], [], []⟩ .lf)) .lf))))) .lf)))))))))) (.int .u64) [.d (.int .i64), .d (.int .i64), .d (.int .i64)] [.d (.int .i64), .d .bool] = Q5k N := by kernel_rfl
noncomputable def Q5i (N : Nat) : Ent Try.prog := mkO 115 Try.f115 _ (.int .u64) [.d (.int .i64), .d (.int .i64), .d (.int .i64)] [.d (.int .i64), .d .bool] (Q5k N) mixed Try.func115 (.mk' Try.func115 rfl (by decide)) rfl (Qa5 N)
noncomputable def Q6i (N : Nat) : FnO (.int .u64) [.d (.int .i64), .d (.int .i64), .d (.int .i64)] [] → FnO (.int .u64) [.d (.int .i64), .d (.int .i64), .d (.int .i64)] [] := Q44 (El :=
 Int) N
theorem Qat (N : Nat) (G : FnO (.int .u64) [.d (.int .i64), .d (.int .i64), .d (.int .i64)] []) (hG : SndO Try.prog 81 (.int .u64) [.d (.int .i64), .d (.int .i64), .d (.int .i64)] [] G) : runO Try.prog [Q4b N, Q5v N, Q48 N, Q54 N, Q4o N, Q2a N, Q17 N, Q3s N, Q5i N, (Qs2 81 (.int .u64) [.d (.int .i64), .d (.int .i64), .d (.int .i64)] [] G (.mk' Try.func81 rfl (by decide)) hG)] [] N Try.f81 (.seq .lf (.seq .lf (.blk (.loop ⟨[(1, .d (.int .i64)), (2, .d (.int .i64)), (3, .d (.int .i64)), (8, .d .bool), (9, .d .bool)], [], [0], [], [], [(1, .arr (.int .u64))]⟩ (.blk (.seq .lf (.seq .lf (.seq .lf (.join ⟨[(3, .d (.int .i64))], [], [0, 1, 2, 8, 9, 10], [], [], [(1, .arr (.int .u64))]⟩ .lf (.seq .lf (.join ⟨[(11, .d (.int .i64)), (12, .d (.int .i64))], [], [0, 1, 2, 3, 8, 9, 10], [], [], [(1, .arr (.int .u64))]⟩ .lf (.join ⟨[], [], [0, 1, 2, 3, 8, 9, 10, 11], [], [], [(1, .arr (.int .u64))]⟩ .lf .lf)))))))))))) (.int .u64) [.d (.int .i64), .d (.int .i64), .d (.int .i64)] [] = Q6i N G := by kernel_rfl
noncomputable def Q66 (N : Nat) : FnO (.int .u64) [.d (.int .i64), .d (.int .i64), .d (.int .i64)] [] := recO (Q6i N) N
theorem Qbc (N : Nat) : SndO Try.prog 81 (.int .u64) [.d (.int .i64), .d (.int .i64), .d (.int .i64)] [] (Q66 N) := Qdi (fun G hG l k => Qat N G hG ▸ Q9a mixed Try.func81 rfl l k) N
noncomputable def F0_slices_pdqsortOrdered_uint64 (N : Nat) : FunA [.d (.int .i64), .d (.int .i64), .d (.int .i64)] (Option (ResT (rkTys (.int .u64) []))) := fun (x x_1 x_2 : Int) => iter (fun (rec : (Int × Int × Int ×
 Bool × Bool × Unit) × Unit × Unit × Unit → Option Unit) (z : (Int × Int × Int × Bool × Bool × Unit) × Unit × Unit × Unit) => bif decide (IntKind.i64.wrap (z.1.2.1 - z.1.1) ≤ 12) then Option.bind
 (F0_slices_insertionSortOrdered_uint64 N z.1.1 z.1.2.1) fun (y : Unit) => some () else bif z.1.2.2.1 == 0 then none else Qj (fun (z : (Int × Unit) × Unit × Unit × Unit) => none) fun (k : (Int ×
 Unit) × Unit × Unit × Unit → Option Unit) => bif !z.1.2.2.2.1 then none else k ((z.1.2.2.1, ()), (), (), ())) N ((x, x_1, x_2, true, true, ()), (), (), ())
theorem Qav (N : Nat) : runO0 Try.prog [Q4b N, Q5v N, Q48 N, Q54 N, Q4o N, Q2a N, Q17 N, Q3s N, Q5i N] [] N Try.f81 (.seq .lf (.seq .lf (.blk (.loop ⟨[(1, .d (.int .i64)), (2, .d (.int .i64)), (3, .d (.int .i64)), (8, .d .bool), (9, .d .bool)], [], [0], [], [], []⟩ (.blk (.seq .lf (.seq .lf (.seq .lf (.join ⟨[(3, .d (.int .i64))], [], [0, 1, 2, 8, 9, 10], [], [], []⟩ .lf (.seq .lf (.join ⟨[(11, .d (.int .i64)), (12, .d (.int .i64))], [], [0, 1, 2, 3, 8, 9, 10], [], [], []⟩ .lf (.join ⟨[], [], [0, 1, 2, 3, 8, 9, 10, 11], [], [], []⟩ .lf .lf)))))))))))) (.int .u64) [.d (.int .i64), .d (.int .i64), .d (.int .i64)] [] = F0_slices_pdqsortOrdered_uint64 N := by kernel_rfl
noncomputable def Q67 (N : Nat) : Ent Try.prog := Qoh 81 (.int .u64) [.d (.int .i64), .d (.int .i64), .d (.int .i64)] [] (Q66 N) (F0_slices_pdqsortOrdered_uint64 N) (.mk' Try.func81 rfl (by decide)) (Qbc N) (Qav N ▸ Q9u mixed Try.func81 rfl)
noncomputable def F0_slices_Sort_suint64_uint64 (N : Nat) : FunA [] (Option (ResT (rkTys (.int .u64) []))) := Option.bind (F_math_bits_Len N 0) fun (y : Int) => Option.bind (F0_slices_pdqsortOrdered_uint64 N 0 0 y) fun
 (y : Unit) => some ()
theorem Qbf (N : Nat) : runO0 Try.prog [Q67 N, e_math_bits_Len N] [] N Try.f46 .lf (.int .u64) [] [] = F0_slices_Sort_suint64_uint64 N := by kernel_rfl
noncomputable def F_slices_Sort_suint64_uint64 (N : Nat) : List ((.int .u64) : Ty).T → Nat → FunA [] (Option (List ((.int .u64) : Ty).T × ResO [])) := Qjc (El := Int) N
theorem Qbu (N : Nat) : runO Try.prog [Q67 N, e_math_bits_Len N] [] N Try.f46 .lf (.int .u64) [] [] = F_slices_Sort_suint64_uint64 N := by kernel_rfl
noncomputable def Qbq (N : Nat) : Ent Try.prog := mkO2 46 Try.f46 _ _ (.int .u64) [] [] (F_slices_Sort_suint64_uint64 N) (F0_slices_Sort_suint64_uint64 N) mixed Try.func46 (.mk' Try.func46 rfl (by decide)) rfl (Qbu N) (Qbf N)
end Go.Proofs.Xu
set_option linter.unusedVariables false
set_option maxRecDepth 100000
namespace Go.Proofs.Xu
open Go Go.Xl Go.Ab Go.Proofs
noncomputable def F0_slices_insertionSortOrdered_uint8 (N : Nat) : FunA [.d (.int .i64), .d (.int .i64)] (Option (ResT (rkTys .u8 []))) := fun (x x_1 : Int) => iter (fun (rec : (Int × Unit) × Unit × Unit × Unit → Option
 Unit) (z : (Int × Unit) × Unit × Unit × Unit) => bif decide (z.1.1 < x_1) then iter (fun (rec_1 : (Int × Unit) × Unit × Unit × Unit → Option Unit) (z_1 : (Int × Unit) × Unit × Unit × Unit) => Qj (fun (z : Unit ×
 Unit × Unit × Unit) => (at? [] (IntKind.i64.wrap (z_1.1.1 - 1))).bind fun (e : UInt8) => (at? [] z_1.1.1).bind fun (e : UInt8) => (at? [] z_1.1.1).bind fun (e : UInt8) => none) fun (k : Unit × Unit × Unit ×
 Unit → Option Unit) => bif decide (x < z_1.1.1) then (at? [] z_1.1.1).bind fun (e : UInt8) => (at? [] (IntKind.i64.wrap (z_1.1.1 - 1))).bind fun (e_1 : UInt8) => Option.bind (Q3j N e e_1) fun (y
 : Bool) => bif y then k ((), (), (), ()) else rec ((IntKind.i64.wrap (z.1.1 + 1), ()), (), (), ()) else rec ((IntKind.i64.wrap (z.1.1 + 1), ()), (), (), ())) N ((z.1.1, ()), (), (), ()) else some ()) N
 ((IntKind.i64.wrap (x + 1), ()), (), (), ())
theorem Q8v (N : Nat) : runO0 Try.prog [Q1g N] [] N Try.f130 (.seq .lf (.blk (.loop ⟨[(6, .d (.int .i64))], [], [0, 1, 2], [], [], []⟩ (.seq .lf (.seq (.blk (.seq .lf (.blk (.loop ⟨[(7, .d (.int .i64))], [], [0, 1, 2, 6], [], [], []⟩ (.join ⟨[], [], [0, 1, 2, 6, 7], [], [], []⟩ .lf .lf))))) .lf))))) .u8 [.d (.int .i64), .d (.int .i64)] [] = F0_slices_insertionSortOrdered_uint8 N := by kernel_rfl
noncomputable def Q4l (N : Nat) : List (.u8 : Ty).T → Nat → FunA [.d (.int .i64), .d (.int .i64)] (Option (List (.u8 : Ty).T × ResO [])) := Q4q (El := UInt8) N
theorem Q96 (N : Nat) : runO Try.prog [Q1g N] [] N Try.f130 (.seq .lf (.blk (.loop ⟨[(6, .d (.int .i64))], [], [0, 1, 2], [], [], [(1, .arr .u8)]⟩ (.seq .lf (.seq (.blk (.seq .lf (.blk (.loop ⟨[(7, .d (.int .i64))], [], [0, 1, 2, 6], [], [], [(1, .arr .u8)]⟩ (.join ⟨[], [], [0, 1, 2, 6, 7], [1], [], []⟩ .lf .lf))))) .lf))))) .u8 [.d (.int .i64), .d (.int .i64)] [] = Q4l N := by kernel_rfl
noncomputable def Q4s (N : Nat) : Ent Try.prog := mkO2 130 Try.f130 _ _ .u8 [.d (.int .i64), .d (.int .i64)] [] (Q4l N) (F0_slices_insertionSortOrdered_uint8 N) mixed Try.func130 (.mk' Try.func130 rfl (by decide)) rfl (Q96 N) (Q8v N)
noncomputable def Q6e (N : Nat) : List (.u8 : Ty).T → Nat → FunA [.d (.int .i64), .d (.int .i64), .d (.int .i64)] (Option (List (.u8 : Ty).T × ResO [])) := Q7p (El := UInt8) N
theorem Qaz (N : Nat) : runO Try.prog [Q1g N] [] N Try.f158 (.seq .lf (.blk (.loop ⟨[(8, .d (.int .i64))], [], [0, 2, 3], [], [], [(1, .arr .u8)]⟩ (.blk (.seq .lf (.seq .lf (.join ⟨[(9, .d (.int .i64))], [], [0, 2, 3, 8], [1], [], []⟩ .lf .lf))))))) .u8 [.d (.int .i64), .d (.int .i64), .d (.int .i64)] [] = Q6e N := by kernel_rfl
noncomputable def Qb2 (N : Nat) : Ent Try.prog := mkO 158 Try.f158 _ .u8 [.d (.int .i64), .d (.int .i64), .d (.int .i64)] [] (Q6e N) mixed Try.func158 (.mk' Try.func158 rfl (by decide)) rfl (Qaz N)
noncomputable def Q6l (N : Nat) : List (.u8 : Ty).T → Nat → FunA [.d (.int .i64), .d (.int .i64)] (Option (List (.u8 : Ty).T × ResO [])) := Q9f (El := UInt8) N
theorem Qb1 (N : Nat) : runO Try.prog [Qb2 N] [] N Try.f131 (.seq .lf (.seq .lf (.seq .lf (.seq (.seq .lf (.blk (.loop ⟨[(9, .d (.int .i64))], [], [0, 6, 7, 8], [], [], [(1, .arr .u8)]⟩ .lf))) (.seq .lf (.blk (.loop ⟨[(10, .d (.int .i64))], [], [0, 6, 7], [], [], [(1, .arr .u8)]⟩ .lf))))))) .u8 [.d (.int .i64), .d (.int .i64)] [] = Q6l N := by kernel_rfl
noncomputable def Q6f (N : Nat) : Ent Try.prog := mkO 131 Try.f131 _ .u8 [.d (.int .i64), .d (.int .i64)] [] (Q6l N) mixed Try.func131 (.mk' Try.func131 rfl (by decide)) rfl (Qb1 N)
noncomputable def Q4n (N : Nat) : List (.u8 : Ty).T → Nat → FunA [.d (.int .i64), .d (.int .i64)] (Option (List (.u8 : Ty).T × ResO [])) := Q2x (El := UInt8) N
theorem Q9i (N : Nat) : runO Try.prog [Q60 N, Q6m N] [] N Try.f132 (.seq .lf (.seq .lf (.cond (.seq .lf (.seq .lf (.seq .lf (.blk (.loop ⟨[(9, .d (.int .i64))], [(1007, [.d (.int .u64)], some 163)], [0, 1, 6, 7, 8], [], [], [(1, .arr .u8)]⟩ (.seq .lf (.seq (.blk (.seq .lf (.join ⟨[(10, .d (.int .i64))], [], [0, 1, 6, 7, 8, 9], [1, 1007], [], []⟩ .lf .lf))) .lf))))))) .lf))) .u8 [.d (.int .i64), .d (.int .i64)] [] = Q4n N := by kernel_rfl
noncomputable def Q4m (N : Nat) : Ent Try.prog := mkO 132 Try.f132 _ .u8 [.d (.int .i64), .d (.int .i64)] [] (Q4n N) mixed Try.func132 (.mk' Try.func132 rfl (by decide)) rfl (Q9i N)
@[reducible] def Q21 : CSp := ⟨[.os 1 .u8, .d (.int .i64), .d (.int .i64), .p 2 0], [(2, [.d (.int .i64)], some 3)], [(1, .arr .u8)], ⟨[(8, .d (.int .i64)), (9, .d (.int .i64))], [(2, [.d (.int .i64)], some 3)], [], [1], [], []⟩⟩
noncomputable def Q7b (N : Nat) : CSp.Fun Q21 (Option Q21.out.T) := Q8c (El := UInt8) N
theorem Qc5 (N : Nat) : runC Try.prog [Q1g N] [] N Try.f179 .lf Q21 = Q7b N := by kernel_rfl
noncomputable def Qc6 (N : Nat) : Ent Try.prog := mkC 179 Try.f179 _ Q21 (Q7b N) mixed Try.func179 (.mk' Try.func179 rfl (by decide)) rfl rfl rfl (Qc5 N)
@[reducible] def Q1y : CSp := ⟨[.os 1 .u8, .d (.int .i64), .d (.int .i64), .d (.int .i64), .p 2 0], [(2, [.d (.int .i64)], some 3)], [(1, .arr .u8)], ⟨[(10, .d (.int .i64))], [(2, [.d (.int .i64)], some 3)], [], [1], [], []⟩⟩
noncomputable def Q7f (N : Nat) : CSp.Fun Q1y (Option Q1y.out.T) := Q8x (El := UInt8) N
theorem Qbt (N : Nat) : runC Try.prog [Qc6 N] [] N Try.f160 .lf Q1y = Q7f N := by kernel_rfl
noncomputable def Q75 (N : Nat) : Ent Try.prog := mkC 160 Try.f160 _ Q1y (Q7f N) mixed Try.func160 (.mk' Try.func160 rfl (by decide)) rfl rfl rfl (Qbt N)
@[reducible] def Q14 : CSp := ⟨[.os 1 .u8, .d (.int .i64), .p 2 0], [(2, [.d (.int .i64)], some 3)], [(1, .arr .u8)], ⟨[(6, .d (.int .i64))], [(2, [.d (.int .i64)], some 3)], [], [1], [], []⟩⟩
noncomputable def Q4d (N : Nat) : CSp.Fun Q14 (Option Q14.out.T) := Q1t (El := UInt8) N
theorem Q8r (N : Nat) : runC Try.prog [Q75 N] [] N Try.f159 .lf Q14 = Q4d N := by kernel_rfl
noncomputable def Q90 (N : Nat) : Ent Try.prog := mkC 159 Try.f159 _ Q14 (Q4d N) mixed Try.func159 (.mk' Try.func159 rfl (by decide)) rfl rfl rfl (Q8r N)
noncomputable def Q59 (N : Nat) : List (.u8 : Ty).T → Nat → FunA [.d (.int .i64), .d (.int .i64)] (Option (List (.u8 : Ty).T × ResO [.d (.int .i64), .d (.int .i64)])) := Q61 (El :=
 UInt8) N
theorem Q9t (N : Nat) : runO Try.prog [Q90 N, Q75 N] [] N Try.f133 (.seq .lf (.seq .lf (.seq .lf (.seq .lf (.seq .lf (.seq .lf (.join ⟨[(11, .d (.int .i64))], [(1009, [.d (.int .i64)], some 3)], [9], [], [], [(1, .arr .u8)]⟩ .lf .lf))))))) .u8 [.d (.int .i64), .d (.int .i64)] [.d (.int .i64), .d (.int .i64)] = Q59 N := by kernel_rfl
noncomputable def Q5c (N : Nat) : Ent Try.prog := mkO 133 Try.f133 _ .u8 [.d (.int .i64), .d (.int .i64)] [.d (.int .i64), .d (.int .i64)] (Q59 N) mixed Try.func133 (.mk' Try.func133 rfl (by decide)) rfl (Q9t N)
noncomputable def Q4z (N : Nat) : List (.u8 : Ty).T → Nat → FunA [.d (.int .i64), .d (.int .i64)] (Option (List (.u8 : Ty).T × ResO [])) := Q3h (El := UInt8) N
theorem Q9l (N : Nat) : runO Try.prog [] [] N Try.f134 (.seq .lf (.seq .lf (.blk (.loop ⟨[(6, .d (.int .i64)), (7, .d (.int .i64))], [], [0], [], [], [(1, .arr .u8)]⟩ .lf)))) .u8 [.d (.int .i64), .d (.int .i64)] [] = Q4z N := by kernel_rfl
noncomputable def Q4v (N : Nat) : Ent Try.prog := mkO 134 Try.f134 _ .u8 [.d (.int .i64), .d (.int .i64)] [] (Q4z N) mixed Try.func134 (.mk' Try.func134 rfl (by decide)) rfl (Q9l N)
noncomputable def Q2g (N : Nat) : List (.u8 : Ty).T → Nat → FunA [.d (.int .i64), .d (.int .i64)] (Option (List (.u8 : Ty).T × ResO [.d .bool])) := Q1j (El :=
 UInt8) N
theorem Q77 (N : Nat) : runO Try.prog [Q1g N] [] N Try.f135 (.seq .lf (.seq .lf (.seq (.seq .lf (.blk (.loop ⟨[(7, .d (.int .i64)), (8, .d (.int .i64))], [], [0, 1, 2], [], [], [(1, .arr .u8)]⟩ (.seq .lf (.seq (.blk (.join ⟨[(7, .d (.int .i64))], [], [0, 1, 2, 8], [1], [], []⟩ (.blk (.loop ⟨[(7, .d (.int .i64))], [], [0, 1, 2, 8], [1], [], []⟩ .lf)) (.seq .lf (.seq .lf (.seq .lf (.join ⟨[], [], [0, 1, 2, 7, 8], [], [], [(1, .arr .u8)]⟩ (.seq .lf (.cond (.seq .lf (.blk (.loop ⟨[(9, .d (.int .i64))], [], [0, 1, 2, 7, 8], [], [], [(1, .arr .u8)]⟩ .lf))) .lf)) (.seq .lf (.cond (.seq .lf (.blk (.loop ⟨[(10, .d (.int .i64))], [], [0, 1, 2, 7, 8], [], [], [(1, .arr .u8)]⟩ .lf))) .lf)))))))) .lf))))) .lf))) .u8 [.d (.int .i64), .d (.int .i64)] [.d .bool] = Q2g N := by kernel_rfl
noncomputable def Q2i (N : Nat) : Ent Try.prog := mkO 135 Try.f135 _ .u8 [.d (.int .i64), .d (.int .i64)] [.d .bool] (Q2g N) mixed Try.func135 (.mk' Try.func135 rfl (by decide)) rfl (Q77 N)
noncomputable def Q42 (N : Nat) : List (.u8 : Ty).T → Nat → FunA [.d (.int .i64), .d (.int .i64), .d (.int .i64)] (Option (List (.u8 : Ty).T × ResO [.d (.int .i64)])) := Q3g
 (El := UInt8) N
theorem Q8n (N : Nat) : runO Try.prog [Q1g N] [] N Try.f137 (.seq .lf (.seq .lf (.seq .lf (.seq (.blk (.loop ⟨[(9, .d (.int .i64)), (10, .d (.int .i64))], [], [0, 1], [], [], [(1, .arr .u8)]⟩ (.blk (.join ⟨[(9, .d (.int .i64))], [], [0, 1, 10], [1], [], []⟩ (.blk (.loop ⟨[(9, .d (.int .i64))], [], [0, 1, 10], [1], [], []⟩ .lf)) (.join ⟨[(10, .d (.int .i64))], [], [0, 1, 9], [1], [], []⟩ (.blk (.loop ⟨[(10, .d (.int .i64))], [], [0, 1, 9], [1], [], []⟩ .lf)) .lf))))) .lf)))) .u8 [.d (.int .i64), .d (.int .i64), .d (.int .i64)] [.d (.int .i64)] = Q42 N := by kernel_rfl
noncomputable def Q43 (N : Nat) : Ent Try.prog := mkO 137 Try.f137 _ .u8 [.d (.int .i64), .d (.int .i64), .d (.int .i64)] [.d (.int .i64)] (Q42 N) mixed Try.func137 (.mk' Try.func137 rfl (by decide)) rfl (Q8n N)
noncomputable def Q5z (N : Nat) : List (.u8 : Ty).T → Nat → FunA [.d (.int .i64), .d (.int .i64), .d (.int .i64)] (Option (List (.u8 : Ty).T × ResO [.d (.int .i64), .d .bool])) := Q5b
 (El := UInt8) N
theorem Qap (N : Nat) : runO Try.prog [Q1g N] [] N Try.f138 (.seq .lf (.seq .lf (.seq .lf (.join ⟨[(10, .d (.int .i64))], [], [0, 1, 11], [1], [], []⟩ (.blk (.loop ⟨[(10, .d (.int .i64))], [], [0, 1, 11], [1], [], []⟩ .lf)) (.join ⟨[(11, .d (.int .i64))], [], [0, 1, 10], [1], [], []⟩ (.blk (.loop ⟨[(11, .d (.int .i64))], [], [0, 1, 10], [1], [], []⟩ .lf)) (.seq .lf (.seq .lf (.seq .lf (.seq .lf (.join ⟨[(11, .d (.int .i64))], [], [0, 1], [], [], [(1, .arr .u8)]⟩ (.blk (.loop ⟨[(10, .d (.int .i64)), (11, .d (.int .i64))], [], [0, 1], [], [], [(1, .arr .u8)]⟩ (.blk (.join ⟨[(10, .d (.int .i64))], [], [0, 1, 11], [1], [], []⟩ (.blk (.loop ⟨[(10, .d (.int .i64))], [], [0, 1, 11], [1], [], []⟩ .lf)) (.join ⟨[(11, .d (.int .i64))], [], [0, 1, 10], [1], [], []⟩ (.blk (.loop ⟨[(11, .d (.int .i64))], [], [0, 1, 10], [1], [], []⟩ .lf)) .lf))))) .lf)))))))))) .u8 [.d (.int .i64), .d (.int .i64), .d (.int .i64)] [.d (.int .i64), .d .bool] = Q5z N := by kernel_rfl
noncomputable def Q5y (N : Nat) : Ent Try.prog := mkO 138 Try.f138 _ .u8 [.d (.int .i64), .d (.int .i64), .d (.int .i64)] [.d (.int .i64), .d .bool] (Q5z N) mixed Try.func138 (.mk' Try.func138 rfl (by decide)) rfl (Qap N)
noncomputable def Q71 (N : Nat) : FnO .u8 [.d (.int .i64), .d (.int .i64), .d (.int .i64)] [] → FnO .u8 [.d (.int .i64), .d (.int .i64), .d (.int .i64)] [] := Q44 (El := UInt8) N
theorem Qb5 (N : Nat) (G : FnO .u8 [.d (.int .i64), .d (.int .i64), .d (.int .i64)] []) (hG : SndO Try.prog 98 .u8 [.d (.int .i64), .d (.int .i64), .d (.int .i64)] [] G) : runO Try.prog [Q4s N, Q6f N, Q4m N, Q5c N, Q4v N, Q2i N, Q1g N, Q43 N, Q5y N, (Qs2 98 .u8 [.d (.int .i64), .d (.int .i64), .d (.int .i64)] [] G (.mk' Try.func98 rfl (by decide)) hG)] [] N Try.f98 (.seq .lf (.seq .lf (.blk (.loop ⟨[(1, .d (.int .i64)), (2, .d (.int .i64)), (3, .d (.int .i64)), (8, .d .bool), (9, .d .bool)], [], [0], [], [], [(1, .arr .u8)]⟩ (.blk (.seq .lf (.seq .lf (.seq .lf (.join ⟨[(3, .d (.int .i64))], [], [0, 1, 2, 8, 9, 10], [], [], [(1, .arr .u8)]⟩ .lf (.seq .lf (.join ⟨[(11, .d (.int .i64)), (12, .d (.int .i64))], [], [0, 1, 2, 3, 8, 9, 10], [], [], [(1, .arr .u8)]⟩ .lf (.join ⟨[], [], [0, 1, 2, 3, 8, 9, 10, 11], [], [], [(1, .arr .u8)]⟩ .lf .lf)))))))))))) .u8 [.d (.int .i64), .d (.int .i64), .d (.int .i64)] [] = Q71 N G := by kernel_rfl
noncomputable def Q6u (N : Nat) : FnO .u8 [.d (.int .i64), .d (.int .i64), .d (.int .i64)] [] := recO (Q71 N) N
theorem Qbl (N : Nat) : SndO Try.prog 98 .u8 [.d (.int .i64), .d (.int .i64), .d (.int .i64)] [] (Q6u N) := Qdi (fun G hG l k => Qb5 N G hG ▸ Q9a mixed Try.func98 rfl l k) N
noncomputable def F0_slices_pdqsortOrdered_uint8 (N : Nat) : FunA [.d (.int .i64), .d (.int .i64), .d (.int .i64)] (Option (ResT (rkTys .u8 []))) := fun (x x_1 x_2 : Int) => iter (fun (rec : (Int × Int × Int × Bool ×
 Bool × Unit) × Unit × Unit × Unit → Option Unit) (z : (Int × Int × Int × Bool × Bool × Unit) × Unit × Unit × Unit) => bif decide (IntKind.i64.wrap (z.1.2.1 - z.1.1) ≤ 12) then Option.bind
 (F0_slices_insertionSortOrdered_uint8 N z.1.1 z.1.2.1) fun (y : Unit) => some () else bif z.1.2.2.1 == 0 then none else Qj (fun (z : (Int × Unit) × Unit × Unit × Unit) => none) fun (k : (Int ×
 Unit) × Unit × Unit × Unit → Option Unit) => bif !z.1.2.2.2.1 then none else k ((z.1.2.2.1, ()), (), (), ())) N ((x, x_1, x_2, true, true, ()), (), (), ())
theorem Qbb (N : Nat) : runO0 Try.prog [Q4s N, Q6f N, Q4m N, Q5c N, Q4v N, Q2i N, Q1g N, Q43 N, Q5y N] [] N Try.f98 (.seq .lf (.seq .lf (.blk (.loop ⟨[(1, .d (.int .i64)), (2, .d (.int .i64)), (3, .d (.int .i64)), (8, .d .bool), (9, .d .bool)], [], [0], [], [], []⟩ (.blk (.seq .lf (.seq .lf (.seq .lf (.join ⟨[(3, .d (.int .i64))], [], [0, 1, 2, 8, 9, 10], [], [], []⟩ .lf (.seq .lf (.join ⟨[(11, .d (.int .i64)), (12, .d (.int .i64))], [], [0, 1, 2, 3, 8, 9, 10], [], [], []⟩ .lf (.join ⟨[], [], [0, 1, 2, 3, 8, 9, 10, 11], [], [], []⟩ .lf .lf)))))))))))) .u8 [.d (.int .i64), .d (.int .i64), .d (.int .i64)] [] = F0_slices_pdqsortOrdered_uint8 N := by kernel_rfl
noncomputable def e_slices_pdqsortOrdered_uint8 (N : Nat) : Ent Try.prog := Qoh 98 .u8 [.d (.int .i64), .d (.int .i64), .d (.int .i64)] [] (Q6u N) (F0_slices_pdqsortOrdered_uint8 N) (.mk' Try.func98 rfl (by decide)) (Qbl N) (Qbb N ▸ Q9u mixed Try.func98 rfl)
noncomputable def F0_slices_Sort_suint8_uint8 (N : Nat) : FunA [] (Option (ResT (rkTys .u8 []))) := Option.bind (F_math_bits_Len N 0) fun (y : Int) => Option.bind (F0_slices_pdqsortOrdered_uint8 N 0 0 y) fun (y : Unit)
 => some ()
theorem E0_slices_Sort_suint8_uint8 (N : Nat) : runO0 Try.prog [e_math_bits_Len N, e_slices_pdqsortOrdered_uint8 N] [] N Try.f72 .lf .u8 [] [] = F0_slices_Sort_suint8_uint8 N := by kernel_rfl
noncomputable def F_slices_Sort_suint8_uint8 (N : Nat) : List (.u8 : Ty).T → Nat → FunA [] (Option (List (.u8 : Ty).T × ResO [])) := Qjc (El := UInt8) N
theorem E_slices_Sort_suint8_uint8 (N : Nat) : runO Try.prog [e_math_bits_Len N, e_slices_pdqsortOrdered_uint8 N] [] N Try.f72 .lf .u8 [] [] = F_slices_Sort_suint8_uint8 N := by kernel_rfl
end Go.Proofs.Xu
set_option linter.unusedVariables false
set_option maxRecDepth 100000
namespace Go.Proofs.Xu
open Go Go.Xl Go.Ab Go.Proofs
noncomputable def Q1n (N : Nat) : FunA [.d (.int .i64), .d (.int .i64)] (Option (ResT (rkTys .str []))) := fun (x x_1 : Int) => iter (fun (rec : (Int × Unit) × Unit × Unit × Unit →
 Option Unit) (z : (Int × Unit) × Unit × Unit × Unit) => bif decide (z.1.1 < x_1) then iter (fun (rec_1 : (Int × Unit) × Unit × Unit × Unit → Option Unit) (z_1 : (Int × Unit) × Unit × Unit × Unit) => Qj (fun (z :
 Unit × Unit × Unit × Unit) => (at? [] (IntKind.i64.wrap (z_1.1.1 - 1))).bind fun (e : List UInt8) => (at? [] z_1.1.1).bind fun (e : List UInt8) => (at? [] z_1.1.1).bind fun (e : List UInt8) => none) fun (k :
 Unit × Unit × Unit × Unit → Option Unit) => bif decide (x < z_1.1.1) then (at? [] z_1.1.1).bind fun (e : List UInt8) => (at? [] (IntKind.i64.wrap (z_1.1.1 - 1))).bind fun (e_1 : List UInt8) => Option.bind
 (Q34 N e e_1) fun (y : Bool) => bif y then k ((), (), (), ()) else rec ((IntKind.i64.wrap (z.1.1 + 1), ()), (), (), ()) else rec ((IntKind.i64.wrap (z.1.1 + 1), ()), (), (), ())) N ((z.1.1,
 ()), (), (), ()) else some ()) N ((IntKind.i64.wrap (x + 1), ()), (), (), ())
theorem Q83 (N : Nat) : runO0 Try.prog [Q16 N] [] N Try.f162 (.seq .lf (.blk (.loop ⟨[(6, .d (.int .i64))], [], [0, 1, 2], [], [], []⟩ (.seq .lf (.seq (.blk (.seq .lf (.blk (.loop ⟨[(7, .d (.int .i64))], [], [0, 1, 2, 6], [], [], []⟩ (.join ⟨[], [], [0, 1, 2, 6, 7], [], [], []⟩ .lf .lf))))) .lf))))) .str [.d (.int .i64), .d (.int .i64)] [] = Q1n N := by kernel_rfl
noncomputable def Q4h (N : Nat) : List (.str : Ty).T → Nat → FunA [.d (.int .i64), .d (.int .i64)] (Option (List (.str : Ty).T × ResO [])) := Q4q (El := List UInt8) N
theorem Q91 (N : Nat) : runO Try.prog [Q16 N] [] N Try.f162 (.seq .lf (.blk (.loop ⟨[(6, .d (.int .i64))], [], [0, 1, 2], [], [], [(1, .arr .str)]⟩ (.seq .lf (.seq (.blk (.seq .lf (.blk (.loop ⟨[(7, .d (.int .i64))], [], [0, 1, 2, 6], [], [], [(1, .arr .str)]⟩ (.join ⟨[], [], [0, 1, 2, 6, 7], [1], [], []⟩ .lf .lf))))) .lf))))) .str [.d (.int .i64), .d (.int .i64)] [] = Q4h N := by kernel_rfl
noncomputable def Q40 (N : Nat) : Ent Try.prog := mkO2 162 Try.f162 _ _ .str [.d (.int .i64), .d (.int .i64)] [] (Q4h N) (Q1n N) mixed Try.func162 (.mk' Try.func162 rfl (by decide)) rfl (Q91 N) (Q83 N)
noncomputable def Q5x (N : Nat) : List (.str : Ty).T → Nat → FunA [.d (.int .i64), .d (.int .i64), .d (.int .i64)] (Option (List (.str : Ty).T × ResO [])) := Q7p (El := List UInt8) N
theorem Qao (N : Nat) : runO Try.prog [Q16 N] [] N Try.f180 (.seq .lf (.blk (.loop ⟨[(8, .d (.int .i64))], [], [0, 2, 3], [], [], [(1, .arr .str)]⟩ (.blk (.seq .lf (.seq .lf (.join ⟨[(9, .d (.int .i64))], [], [0, 2, 3, 8], [1], [], []⟩ .lf .lf))))))) .str [.d (.int .i64), .d (.int .i64), .d (.int .i64)] [] = Q5x N := by kernel_rfl
noncomputable def Qak (N : Nat) : Ent Try.prog := mkO 180 Try.f180 _ .str [.d (.int .i64), .d (.int .i64), .d (.int .i64)] [] (Q5x N) mixed Try.func180 (.mk' Try.func180 rfl (by decide)) rfl (Qao N)
noncomputable def Q5w (N : Nat) : List (.str : Ty).T → Nat → FunA [.d (.int .i64), .d (.int .i64)] (Option (List (.str : Ty).T × ResO [])) := Q9f (El := List UInt8) N
theorem Qal (N : Nat) : runO Try.prog [Qak N] [] N Try.f163 (.seq .lf (.seq .lf (.seq .lf (.seq (.seq .lf (.blk (.loop ⟨[(9, .d (.int .i64))], [], [0, 6, 7, 8], [], [], [(1, .arr .str)]⟩ .lf))) (.seq .lf (.blk (.loop ⟨[(10, .d (.int .i64))], [], [0, 6, 7], [], [], [(1, .arr .str)]⟩ .lf))))))) .str [.d (.int .i64), .d (.int .i64)] [] = Q5w N := by kernel_rfl
noncomputable def Q5u (N : Nat) : Ent Try.prog := mkO 163 Try.f163 _ .str [.d (.int .i64), .d (.int .i64)] [] (Q5w N) mixed Try.func163 (.mk' Try.func163 rfl (by decide)) rfl (Qal N)
noncomputable def Q4e (N : Nat) : List (.str : Ty).T → Nat → FunA [.d (.int .i64), .d (.int .i64)] (Option (List (.str : Ty).T × ResO [])) := Q2x (El := List UInt8) N
theorem Q8o (N : Nat) : runO Try.prog [Q60 N, Q6m N] [] N Try.f164 (.seq .lf (.seq .lf (.cond (.seq .lf (.seq .lf (.seq .lf (.blk (.loop ⟨[(9, .d (.int .i64))], [(1007, [.d (.int .u64)], some 163)], [0, 1, 6, 7, 8], [], [], [(1, .arr .str)]⟩ (.seq .lf (.seq (.blk (.seq .lf (.join ⟨[(10, .d (.int .i64))], [], [0, 1, 6, 7, 8, 9], [1, 1007], [], []⟩ .lf .lf))) .lf))))))) .lf))) .str [.d (.int .i64), .d (.int .i64)] [] = Q4e N := by kernel_rfl
noncomputable def Q3z (N : Nat) : Ent Try.prog := mkO 164 Try.f164 _ .str [.d (.int .i64), .d (.int .i64)] [] (Q4e N) mixed Try.func164 (.mk' Try.func164 rfl (by decide)) rfl (Q8o N)
@[reducible] def Q1o : CSp := ⟨[.os 1 .str, .d (.int .i64), .d (.int .i64), .p 2 0], [(2, [.d (.int .i64)], some 3)], [(1, .arr .str)], ⟨[(8, .d (.int .i64)), (9, .d (.int .i64))], [(2, [.d (.int .i64)], some 3)], [], [1], [], []⟩⟩
noncomputable def Q6w (N : Nat) : CSp.Fun Q1o (Option Q1o.out.T) := Q8c (El := List UInt8) N
theorem Qbd (N : Nat) : runC Try.prog [Q16 N] [] N Try.f195 .lf Q1o = Q6w N := by kernel_rfl
noncomputable def Qbi (N : Nat) : Ent Try.prog := mkC 195 Try.f195 _ Q1o (Q6w N) mixed Try.func195 (.mk' Try.func195 rfl (by decide)) rfl rfl rfl (Qbd N)
@[reducible] def Q1q : CSp := ⟨[.os 1 .str, .d (.int .i64), .d (.int .i64), .d (.int .i64), .p 2 0], [(2, [.d (.int .i64)], some 3)], [(1, .arr .str)], ⟨[(10, .d (.int .i64))], [(2, [.d (.int .i64)], some 3)], [], [1], [], []⟩⟩
noncomputable def Q6x (N : Nat) : CSp.Fun Q1q (Option Q1q.out.T) := Q8x (El := List UInt8) N
theorem Qbe (N : Nat) : runC Try.prog [Qbi N] [] N Try.f182 .lf Q1q = Q6x N := by kernel_rfl
noncomputable def Q6v (N : Nat) : Ent Try.prog := mkC 182 Try.f182 _ Q1q (Q6x N) mixed Try.func182 (.mk' Try.func182 rfl (by decide)) rfl rfl rfl (Qbe N)
@[reducible] def Q11 : CSp := ⟨[.os 1 .str, .d (.int .i64), .p 2 0], [(2, [.d (.int .i64)], some 3)], [(1, .arr .str)], ⟨[(6, .d (.int .i64))], [(2, [.d (.int .i64)], some 3)], [], [1], [], []⟩⟩
noncomputable def Q3q (N : Nat) : CSp.Fun Q11 (Option Q11.out.T) := Q1t (El := List UInt8) N
theorem Q8a (N : Nat) : runC Try.prog [Q6v N] [] N Try.f181 .lf Q11 = Q3q N := by kernel_rfl
noncomputable def Q87 (N : Nat) : Ent Try.prog := mkC 181 Try.f181 _ Q11 (Q3q N) mixed Try.func181 (.mk' Try.func181 rfl (by decide)) rfl rfl rfl (Q8a N)
noncomputable def Q51 (N : Nat) : List (.str : Ty).T → Nat → FunA [.d (.int .i64), .d (.int .i64)] (Option (List (.str : Ty).T × ResO [.d (.int .i64), .d (.int .i64)])) := Q61 (El
 := List UInt8) N
theorem Q9j (N : Nat) : runO Try.prog [Q87 N, Q6v N] [] N Try.f165 (.seq .lf (.seq .lf (.seq .lf (.seq .lf (.seq .lf (.seq .lf (.join ⟨[(11, .d (.int .i64))], [(1009, [.d (.int .i64)], some 3)], [9], [], [], [(1, .arr .str)]⟩ .lf .lf))))))) .str [.d (.int .i64), .d (.int .i64)] [.d (.int .i64), .d (.int .i64)] = Q51 N := by kernel_rfl
noncomputable def Q50 (N : Nat) : Ent Try.prog := mkO 165 Try.f165 _ .str [.d (.int .i64), .d (.int .i64)] [.d (.int .i64), .d (.int .i64)] (Q51 N) mixed Try.func165 (.mk' Try.func165 rfl (by decide)) rfl (Q9j N)
noncomputable def Q4t (N : Nat) : List (.str : Ty).T → Nat → FunA [.d (.int .i64), .d (.int .i64)] (Option (List (.str : Ty).T × ResO [])) := Q3h (El := List UInt8) N
theorem Q9d (N : Nat) : runO Try.prog [] [] N Try.f166 (.seq .lf (.seq .lf (.blk (.loop ⟨[(6, .d (.int .i64)), (7, .d (.int .i64))], [], [0], [], [], [(1, .arr .str)]⟩ .lf)))) .str [.d (.int .i64), .d (.int .i64)] [] = Q4t N := by kernel_rfl
noncomputable def Q4r (N : Nat) : Ent Try.prog := mkO 166 Try.f166 _ .str [.d (.int .i64), .d (.int .i64)] [] (Q4t N) mixed Try.func166 (.mk' Try.func166 rfl (by decide)) rfl (Q9d N)
noncomputable def Q29 (N : Nat) : List (.str : Ty).T → Nat → FunA [.d (.int .i64), .d (.int .i64)] (Option (List (.str : Ty).T × ResO [.d .bool])) := Q1j (El :=
 List UInt8) N
theorem Q73 (N : Nat) : runO Try.prog [Q16 N] [] N Try.f167 (.seq .lf (.seq .lf (.seq (.seq .lf (.blk (.loop ⟨[(7, .d (.int .i64)), (8, .d (.int .i64))], [], [0, 1, 2], [], [], [(1, .arr .str)]⟩ (.seq .lf (.seq (.blk (.join ⟨[(7, .d (.int .i64))], [], [0, 1, 2, 8], [1], [], []⟩ (.blk (.loop ⟨[(7, .d (.int .i64))], [], [0, 1, 2, 8], [1], [], []⟩ .lf)) (.seq .lf (.seq .lf (.seq .lf (.join ⟨[], [], [0, 1, 2, 7, 8], [], [], [(1, .arr .str)]⟩ (.seq .lf (.cond (.seq .lf (.blk (.loop ⟨[(9, .d (.int .i64))], [], [0, 1, 2, 7, 8], [], [], [(1, .arr .str)]⟩ .lf))) .lf)) (.seq .lf (.cond (.seq .lf (.blk (.loop ⟨[(10, .d (.int .i64))], [], [0, 1, 2, 7, 8], [], [], [(1, .arr .str)]⟩ .lf))) .lf)))))))) .lf))))) .lf))) .str [.d (.int .i64), .d (.int .i64)] [.d .bool] = Q29 N := by kernel_rfl
noncomputable def Q2b (N : Nat) : Ent Try.prog := mkO 167 Try.f167 _ .str [.d (.int .i64), .d (.int .i64)] [.d .bool] (Q29 N) mixed Try.func167 (.mk' Try.func167 rfl (by decide)) rfl (Q73 N)
noncomputable def Q3u (N : Nat) : List (.str : Ty).T → Nat → FunA [.d (.int .i64), .d (.int .i64), .d (.int .i64)] (Option (List (.str : Ty).T × ResO [.d (.int .i64)])) :=
 Q3g (El := List UInt8) N
theorem Q86 (N : Nat) : runO Try.prog [Q16 N] [] N Try.f169 (.seq .lf (.seq .lf (.seq .lf (.seq (.blk (.loop ⟨[(9, .d (.int .i64)), (10, .d (.int .i64))], [], [0, 1], [], [], [(1, .arr .str)]⟩ (.blk (.join ⟨[(9, .d (.int .i64))], [], [0, 1, 10], [1], [], []⟩ (.blk (.loop ⟨[(9, .d (.int .i64))], [], [0, 1, 10], [1], [], []⟩ .lf)) (.join ⟨[(10, .d (.int .i64))], [], [0, 1, 9], [1], [], []⟩ (.blk (.loop ⟨[(10, .d (.int .i64))], [], [0, 1, 9], [1], [], []⟩ .lf)) .lf))))) .lf)))) .str [.d (.int .i64), .d (.int .i64), .d (.int .i64)] [.d (.int .i64)] = Q3u N := by kernel_rfl
noncomputable def Q3r (N : Nat) : Ent Try.prog := mkO 169 Try.f169 _ .str [.d (.int .i64), .d (.int .i64), .d (.int .i64)] [.d (.int .i64)] (Q3u N) mixed Try.func169 (.mk' Try.func169 rfl (by decide)) rfl (Q86 N)
noncomputable def Q5r (N : Nat) : List (.str : Ty).T → Nat → FunA [.d (.int .i64), .d (.int .i64), .d (.int .i64)] (Option (List (.str : Ty).T × ResO [.d (.int .i64), .d .bool])) :=
 Q5b (El := List UInt8) N
theorem Qa4 (N : Nat) : runO Try.prog [Q16 N] [] N Try.f170 (.seq .lf (.seq .lf (.seq .lf (.join ⟨[(10, .d (.int .i64))], [], [0, 1, 11], [1], [], []⟩ (.blk (.loop ⟨[(10, .d (.int .i64))], [], [0, 1, 11], [1], [], []⟩ .lf)) (.join ⟨[(11, .d (.int .i64))], [], [0, 1, 10], [1], [], []⟩ (.blk (.loop ⟨[(11, .d (.int .i64))], [], [0, 1, 10], [1], [], []⟩ .lf)) (.seq .lf (.seq .lf (.seq .lf (.seq .lf (.join ⟨[(11, .d (.int .i64))], [], [0, 1], [], [], [(1, .arr .str)]⟩ (.blk (.loop ⟨[(10, .d (.int .i64)), (11, .d (.int .i64))], [], [0, 1], [], [], [(1, .arr .str)]⟩ (.blk (.join ⟨[(10, .d (.int .i64))], [], [0, 1, 11], [1], [], []⟩ (.blk (.loop ⟨[(10, .d (.int .i64))], [], [0, 1, 11], [1], [], []⟩ .lf)) (.join ⟨[(11, .d (.int .i64))], [], [0, 1, 10], [1], [], []⟩ (.blk (.loop ⟨[(11, .d (.int .i64))], [], [0, 1, 10], [1], [], []⟩ .lf)) .lf))))) .lf)))))))))) .str [.d (.int .i64), .d (.int .i64), .d (.int .i64)] [.d (.int .i64), .d .bool] = Q5r N := by kernel_rfl
noncomputable def Q5j (N : Nat) : Ent Try.prog := mkO 170 Try.f170 _ .str [.d (.int .i64), .d (.int .i64), .d (.int .i64)] [.d (.int .i64), .d .bool] (Q5r N) mixed Try.func170 (.mk' Try.func170 rfl (by decide)) rfl (Qa4 N)
noncomputable def Q6b (N : Nat) : FnO .str [.d (.int .i64), .d (.int .i64), .d (.int .i64)] [] → FnO .str [.d (.int .i64), .d (.int .i64), .d (.int .i64)] [] := Q44 (El := List UInt8) N
theorem Qan (N : Nat) (G : FnO .str [.d (.int .i64), .d (.int .i64), .d (.int .i64)] []) (hG : SndO Try.prog 139 .str [.d (.int .i64), .d (.int .i64), .d (.int .i64)] [] G) : runO Try.prog [(Qs2 139 .str [.d (.int .i64), .d (.int .i64), .d (.int .i64)] [] G (.mk' Try.func139 rfl (by decide)) hG), Q40 N, Q5u N, Q3z N, Q50 N, Q4r N, Q2b N, Q16 N, Q3r N, Q5j N] [] N Try.f139 (.seq .lf (.seq .lf (.blk (.loop ⟨[(1, .d (.int .i64)), (2, .d (.int .i64)), (3, .d (.int .i64)), (8, .d .bool), (9, .d .bool)], [], [0], [], [], [(1, .arr .str)]⟩ (.blk (.seq .lf (.seq .lf (.seq .lf (.join ⟨[(3, .d (.int .i64))], [], [0, 1, 2, 8, 9, 10], [], [], [(1, .arr .str)]⟩ .lf (.seq .lf (.join ⟨[(11, .d (.int .i64)), (12, .d (.int .i64))], [], [0, 1, 2, 3, 8, 9, 10], [], [], [(1, .arr .str)]⟩ .lf (.join ⟨[], [], [0, 1, 2, 3, 8, 9, 10, 11], [], [], [(1, .arr .str)]⟩ .lf .lf)))))))))))) .str [.d (.int .i64), .d (.int .i64), .d (.int .i64)] [] = Q6b N G := by kernel_rfl
noncomputable def Q6g (N : Nat) : FnO .str [.d (.int .i64), .d (.int .i64), .d (.int .i64)] [] := recO (Q6b N) N
theorem Qb4 (N : Nat) : SndO Try.prog 139 .str [.d (.int .i64), .d (.int .i64), .d (.int .i64)] [] (Q6g N) := Qdi (fun G hG l k => Qan N G hG ▸ Q9a mixed Try.func139 rfl l k) N
noncomputable def Q2n (N : Nat) : FunA [.d (.int .i64), .d (.int .i64), .d (.int .i64)] (Option (ResT (rkTys .str []))) := fun (x x_1 x_2 : Int) => iter (fun (rec : (Int × Int × Int × Bool ×
 Bool × Unit) × Unit × Unit × Unit → Option Unit) (z : (Int × Int × Int × Bool × Bool × Unit) × Unit × Unit × Unit) => bif decide (IntKind.i64.wrap (z.1.2.1 - z.1.1) ≤ 12) then Option.bind
 (Q1n N z.1.1 z.1.2.1) fun (y : Unit) => some () else bif z.1.2.2.1 == 0 then none else Qj (fun (z : (Int × Unit) × Unit × Unit × Unit) => none) fun (k : (Int ×
 Unit) × Unit × Unit × Unit → Option Unit) => bif !z.1.2.2.2.1 then none else k ((z.1.2.2.1, ()), (), (), ())) N ((x, x_1, x_2, true, true, ()), (), (), ())
theorem Qaq (N : Nat) : runO0 Try.prog [Q40 N, Q5u N, Q3z N, Q50 N, Q4r N, Q2b N, Q16 N, Q3r N, Q5j N] [] N Try.f139 (.seq .lf (.seq .lf (.blk (.loop ⟨[(1, .d (.int .i64)), (2, .d (.int .i64)), (3, .d (.int .i64)), (8, .d .bool), (9, .d .bool)], [], [0], [], [], []⟩ (.blk (.seq .lf (.seq .lf (.seq .lf (.join ⟨[(3, .d (.int .i64))], [], [0, 1, 2, 8, 9, 10], [], [], []⟩ .lf (.seq .lf (.join ⟨[(11, .d (.int .i64)), (12, .d (.int .i64))], [], [0, 1, 2, 3, 8, 9, 10], [], [], []⟩ .lf (.join ⟨[], [], [0, 1, 2, 3, 8, 9, 10, 11], [], [], []⟩ .lf .lf)))))))))))) .str [.d (.int .i64), .d (.int .i64), .d (.int .i64)] [] = Q2n N := by kernel_rfl
noncomputable def Q6d (N : Nat) : Ent Try.prog := Qoh 139 .str [.d (.int .i64), .d (.int .i64), .d (.int .i64)] [] (Q6g N) (Q2n N) (.mk' Try.func139 rfl (by decide)) (Qb4 N) (Qaq N ▸ Q9u mixed Try.func139 rfl)
noncomputable def Q38 (N : Nat) : FunA [] (Option (ResT (rkTys .str []))) := Option.bind (F_math_bits_Len N 0) fun (y : Int) => Option.bind (Q2n N 0 0 y) fun (y :
 Unit) => some ()
theorem Qbj (N : Nat) : runO0 Try.prog [Q6d N, e_math_bits_Len N] [] N Try.f103 .lf .str [] [] = Q38 N := by kernel_rfl
noncomputable def F_slices_Sort_sstring_string (N : Nat) : List (.str : Ty).T → Nat → FunA [] (Option (List (.str : Ty).T × ResO [])) := Qjc (El := List UInt8) N
theorem Qca (N : Nat) : runO Try.prog [Q6d N, e_math_bits_Len N] [] N Try.f103 .lf .str [] [] = F_slices_Sort_sstring_string N := by kernel_rfl
noncomputable def Qbr (N : Nat) : Ent Try.prog := mkO2 103 Try.f103 _ _ .str [] [] (F_slices_Sort_sstring_string N) (Q38 N) mixed Try.func103 (.mk' Try.func103 rfl (by decide)) rfl (Qca N) (Qbj N)
end Go.Proofs.Xu
set_option maxRecDepth 100000
namespace Go.Proofs.Xu
open Go Go.Xl Go.Ab Go.Proofs Go.Sort
namespace B
def ltU (x y : UInt8) : Bool := decide (x < y)
def srt (l : List UInt8) : List UInt8 := l.mergeSort (fun x y => !ltU y x)
theorem Sort_eq (N : Nat) (l : List UInt8) (hl : l.length ≤ 1000000000000) (hN : 1000000000000 < N) : F_slices_Sort_suint8_uint8 N l l.length = some (srt l, ()) := Xu.Sort_eq N l hl hN
end B
namespace S
def srt (l : List (List UInt8)) : List (List UInt8) := l.mergeSort (fun x y => !Op.bytesLess y x)
theorem Sort_eq (N : Nat) (l : List (List UInt8)) (hl : l.length ≤ 1000000000000) (hN : 1000000000000 < N) : F_slices_Sort_sstring_string N l l.length = some (srt l, ()) := Xu.Sort_eq N l hl hN
end S
namespace U
def srt (l : List Int) : List Int := l.mergeSort (fun x y => !decide (y < x))
theorem Sort_eq (N : Nat) (l : List Int) (hl : l.length ≤ 1000000000000) (hN : 1000000000000 < N) : F_slices_Sort_suint64_uint64 N l l.length = some (srt l, ()) := Xu.Sort_eq N l hl hN
end U
end Go.Proofs.Xu
set_option linter.unusedVariables false
set_option linter.unusedSimpArgs false
set_option maxRecDepth 100000
namespace Go.Proofs.Xg
open Go Go.Ab Go.Xl Go.Proofs
theorem seqI : SeqI where
 map := tyI_I (by kernel_rfl)
 und := ⟨_, _, Try.underlying64⟩
 sl := tyI_I (by kernel_rfl)
def srt8 (l : List UInt8) : List UInt8 := Xu.B.srt l
theorem Qf1 (l : List UInt8) : (srt8 l).Perm l := List.mergeSort_perm l _
theorem Qlm (l : List UInt8) : (srt8 l).Pairwise (fun x y => x ≤ y) := by
 have := List.pairwise_mergeSort (le := fun x y => !Xu.B.ltU y x) (by
  intro a b c h1 h2
  simp only [Xu.B.ltU, Bool.not_eq_true', decide_eq_false_iff_not, UInt8.lt_iff_toNat_lt] at *
  omega) (by
  intro a b
  simp only [Xu.B.ltU, Bool.or_eq_true, Bool.not_eq_true', decide_eq_false_iff_not, UInt8.lt_iff_toNat_lt]
  omega) l
 refine this.imp ?_
 intro a b h
 simp only [Xu.B.ltU, Bool.not_eq_true', decide_eq_false_iff_not, UInt8.lt_iff_toNat_lt] at h
 rw [UInt8.le_iff_toNat_le]; omega
theorem Ql5 {l l' : List UInt8} (h : l.Perm l') (hs : l'.Pairwise (fun x y => x ≤ y)) : srt8 l = l' := by
 refine List.Perm.eq_of_pairwise (le := fun x y : UInt8 => x ≤ y) (fun a b _ _ h1 h2 => ?_) (Qlm l) hs ((Qf1 l).trans h)
 rw [UInt8.le_iff_toNat_le] at h1 h2
 exact UInt8.toNat_inj.1 (by omega)
theorem len0 (N : Nat) : Xu.F_math_bits_Len N 0 = some 0 := by kernel_rfl
theorem Q11p : Xu.F0_slices_Sort_suint8_uint8 2000000000000 = some () := by
 unfold Xu.F0_slices_Sort_suint8_uint8 Xu.F0_slices_pdqsortOrdered_uint8
 rw [len0, Option.bind_some]
 obtain ⟨N, hN⟩ : ∃ N, (2000000000000 : Nat) = N + 1 := ⟨1999999999999, rfl⟩
 rw [hN]
 unfold Xu.F0_slices_insertionSortOrdered_uint8
 simp only [iter]
 rfl
theorem sortI : SortI srt8 where
 sorts l hl hlen := by
  have h := Q9a (P := Try.prog) (Γ := [Xu.e_slices_pdqsortOrdered_uint8 2000000000000, Xu.e_math_bits_Len 2000000000000]) (own := []) (N := 2000000000000) (an := .lf) (ks := []) (rs := []) Xu.mixed Try.func72 rfl l l.length
  have e : runO Try.prog [Xu.e_slices_pdqsortOrdered_uint8 2000000000000, Xu.e_math_bits_Len 2000000000000] [] 2000000000000 Try.f72 .lf .u8 [] [] = Xu.F_slices_Sort_suint8_uint8 2000000000000 := Xu.E_slices_Sort_suint8_uint8 2000000000000
  rw [e] at h
  exact h (srt8 l, ()) (Xu.B.Sort_eq 2000000000000 l hlen (by decide))
 nil := by
  have h := Q9u (P := Try.prog) (Γ := [Xu.e_slices_pdqsortOrdered_uint8 2000000000000, Xu.e_math_bits_Len 2000000000000]) (own := []) (N := 2000000000000) (an := .lf) (t := .u8) (ks := []) (rs := []) Xu.mixed Try.func72 rfl
  have e : runO0 Try.prog [Xu.e_slices_pdqsortOrdered_uint8 2000000000000, Xu.e_math_bits_Len 2000000000000] [] 2000000000000 Try.f72 .lf .u8 [] [] = Xu.F0_slices_Sort_suint8_uint8 2000000000000 := Xu.E0_slices_Sort_suint8_uint8 2000000000000
  rw [e] at h
  exact h () Q11p
 len l := (Qf1 l).length_eq
 perm l l' h := Ql5 (h.trans (Qf1 l').symm) (Qlm l')
theorem Qwv (w : World) (mb : Nat) : Calls Try.prog 41 #[.map (some mb)] w fun r w' => r = .returned (.func (.func 73) #[] #[.pointer (some ⟨w.heap.size, 0, none⟩)]) ∧ w' = w.alloc (.cells #[.map (some mb)] 64) := by
 have hF : ∀ f, Fence.wide.fn f := fun _ => trivial
 refine (callsIn_wide (n := 0)).1 (callsIn_of_wp Try.func41 rfl trivial ?_ rfl)
 generalize hA : ({ tmps := #[.map (some mb)] ++ Array.replicate (Try.f41.ntmps - (#[Value.map (some mb)] : Array Value).size) undef, defers := [] } : Act) = A
 have a1 : A.tmps.size = 4 := by rw [← hA]; simp [Try.f41]
 have a2 : A.defers = [] := by rw [← hA]
 have a3 : A.eval (.tmp 0) = .map (some mb) := by rw [← hA]; simp [Act.eval, Try.f41, Array.getD]
 clear hA
 refine wpIn_seq (wpIn_region_list ?_)
 refine Qf hF (v := .pointer (some ⟨w.heap.size, 0, none⟩)) (w' := w.alloc (.cells #[.map (some mb)] 64)) rfl (by simp) ?_ ?_
 ·simp only [execOp, a3]
  simp [Instr.box, newVar, Go.newRow, Value.cells]
 refine Qf hF (v := .nilFunc) (w' := w.alloc (.cells #[.map (some mb)] 64)) rfl (by simp) rfl (wpListIn_nil ?_)
 refine wpIn_seq (wpIn_region_list ?_)
 refine Qf hF (v := .func (.func 73) #[] #[.pointer (some ⟨w.heap.size, 0, none⟩)]) (w' := w.alloc (.cells #[.map (some mb)] 64)) rfl (by simp) ?_ ?_
 ·simp only [execOp]
  have : (Act.put (Act.put A (some 1) (.pointer (some ⟨w.heap.size, 0, none⟩))) (some 2) .nilFunc).eval (.tmp 1) = .pointer (some ⟨w.heap.size, 0, none⟩) := by
   rw [Qd (by decide), Qk (by omega)]
  simp [Instr.makeFunc, this]
 refine Qf hF (v := .func (.func 73) #[] #[.pointer (some ⟨w.heap.size, 0, none⟩)]) (w' := w.alloc (.cells #[.map (some mb)] 64)) rfl (by simp) ?_ (wpListIn_nil (wpIn_ret ?_))
 ·simp only [execOp]
  rw [Qk (by rw [Q5, Q5]; omega)]
  rfl
 ·exact Qot rfl a2 (Qk (by rw [Q5, Q5, Q5]; omega)) ⟨rfl, rfl⟩
def Qof {R : Type} (o : Oper) (st : XSt) (vs : List XV) (K : Out → Option R) : Option R :=
 match o.op, vs, newName o with
 | .call c, [.nm k .m], some b => match c.args.toList with
  | [x] => cond (Nat.beq k b) none (cond (fresh b st) (K ⟨.all, .clo 73 [.nm b (.p 0)], [(x, .nm k .m)], (b, .cells [.nm k .m] (some 64)) :: st.objs, st.live, [b], [b]⟩) none)
  | _ => none
 | _, _, _ => none
theorem Qxc {st : XSt} {x : Operand} {v : XV} (h : Qh st [x] = some [v]) : xeval st x = some v := by
 simp only [Qh] at h
 split at h
 ·rename_i y ys hy hys
  simp only [Option.some.injEq, List.cons.injEq] at h
  obtain ⟨rfl, _⟩ := h
  exact hy
 ·cases h
theorem Qwa {R : Type} (o : Oper) (st : XSt) (args : Array Operand) (ts : Array TypeId) (vs : List XV) (K : Out → Option R) (r : R)
  (ho : o.op = .call { callee := .value (.func 41), args := args, argTypes := ts }) (hv : Qh st args.toList = some vs) (h : Qof o st vs K = some r) : ∃ out, K out = some r ∧ OpOk Try.prog o st out := by
 unfold Qof at h
 rw [ho] at h
 split at h
 ·rename_i c k b hc hb
  cases hc
  split at h
  ·rename_i x hx
   have ha : args = #[x] := Array.toList_inj.1 hx
   subst ha
   cases hkb : Nat.beq k b with
   | true => simp [hkb] at h
   | false =>
   have hne : k ≠ b := Nat.ne_of_beq_eq_false hkb
   cases hf : fresh b st with
   | false => simp [hkb, hf] at h
   | true =>
    simp only [hkb, hf, cond_true, cond_false] at h
    obtain ⟨h1, h2⟩ := Q5p hf
    have hx' := Qxc hv
    refine ⟨_, h, ⟨Qg hx', ?_, fun j z hj hz => ?_⟩⟩
    ·intro nm hsm B g w a hr hrd next Q hn
     have e1 := (rd0 hrd).mp_inv
     simp only at e1
     unfold Oper.wp
     rw [Qes ho (.mk' Try.func41 rfl (by decide))]
     have hc := Qwv w (g.ρ k)
     rw [show (#[x] : Array Operand).map a.eval = #[.map (some (g.ρ k))] by simp [e1]]
     refine hc.mono ?_
     rintro e w' ⟨rfl, rfl⟩
     obtain ⟨n1, n2⟩ := hr.newObj (k := b) (Q5l h1) h2 (.cells #[.map (some (g.ρ k))] 64) (.cells [.nm k .m] (some 64)) (fun g' w' ht hb => .cells _ _ _ _ hb (by simp) (fun i x v hx hv => by
      cases i with
      | zero =>
       simp at hx hv; subst hx; subst hv
       refine .nm _ _ _ ?_
       show _ = _
       rw [ht.names k (by simpa using hne)]
      | succ i => simp at hx) (by simp))
     refine hn _ _ _ n1 n2 ?_
     refine .clo 73 _ _ rfl ?_
     intro i x v hx hv
     cases i with
     | zero =>
      simp [asOf, XV.a] at hx hv; subst hx; subst hv
      have := RA.ptr (g := { g with ρ := upd g.ρ b w.heap.size }) (w := w.alloc (.cells #[.map (some (g.ρ k))] 64)) b 0
      simpa [upd_same] using this
     | succ i => simp [asOf] at hx
    ·rw [Qu (by simpa using hj)] at hz; exact hz
  ·cases h
 ·cases h
noncomputable def Qtt (N : Nat) : Ent Try.prog where
 id := 41
 run := Qof
 ok := Qwa
def ks8 (e : MapEntry) : UInt8 := match e.key with
 | .int _ n => UInt8.ofNat n.toNat
 | _ => 0
def keys8 {vt : Ty} (es : Ents .u8 vt) : List UInt8 := srt8 (es.map fun e => e.2.1)
def Qii {R : Type} (o : Oper) (st : XSt) (vs : List XV) (K : Out → Option R) : Option R :=
 match o.op, vs with
 | .call c, [.clo 73 [.nm b (.p 0)]] => match c.args.toList, lk b st.objs with
  | [x], some (.cells [.nm k .m] ty) => match lk k st.objs with
   | some (.mapt L .u8 vt es clock) => cond (Nat.ble (fgT es).length 1000000000) (K ⟨.look [b, k], .d (.sl .u8 (keys8 (fgT es))), [(x, .clo 73 [.nm b (.p 0)])], st.objs, st.live, [], []⟩) none
   | some (.map .u8 vt es clock) => cond (Nat.ble es.length 1000000000) (K ⟨.look [b, k], .d (.sl .u8 (keys8 es)), [(x, .clo 73 [.nm b (.p 0)])], st.objs, st.live, [], []⟩) none
   | _ => none
  | _, _ => none
 | _, _ => none
theorem Qqe {vt : Ty} {es : Ents .u8 vt} {clock : Nat} {o : Oper} {x : Operand} {ts : Array TypeId} {X : Store} {b k : Nat} {ty : Option TypeId} (ho : o.op = .call { callee := .value (.func 40), args := #[x], argTypes := ts })
  (hb' : X.objs.lookup b = some (XOb.cells [.nm k .m] ty).o) (hk' : ∀ nm B g w, HR nm B g w X → ∃ ar, MapW .u8 vt g w (g.ρ k) es clock ar) (hlen : es.length ≤ 1000000000) :
  OpT Try.prog o [(x, .clo 73 [.ptr b 0])] X X [] (.d (.sl 1 ((keys8 es).map (Ty.ds .u8)))) := by
 intro nm hsm B g w a hr hrd next Q hn
 have e1 := rd0 hrd
 simp only at e1
 have e2 : a.eval x = .func (.func 73) #[] #[.pointer (some ⟨g.ρ b, 0, none⟩)] := by
  generalize a.eval x = v at e1
  cases e1 with
  | clo _ _ us hl hus =>
   have h1 : us.size = 1 := by simpa using hl.symm
   have h2 := hus 0 _ us[0] (by rfl) (by simp [h1])
   have h3 := h2.ptr_inv
   have : us = #[.pointer (some ⟨g.ρ b, 0, none⟩)] := by
    apply Array.ext
    ·simpa using h1
    ·intro i hi1 hi2
     have : i = 0 := by omega
     subst this
     simpa using h3
   rw [this]
 unfold Oper.wp
 rw [Qes ho (.mk' Try.func40 rfl (by decide))]
 rw [show (#[x] : Array Operand).map a.eval = #[.func (.func 73) #[] #[.pointer (some ⟨g.ρ b, 0, none⟩)]] by simp [e2]]
 obtain ⟨ar, hm⟩ := hk' nm B g w hr
 have hbox : w.cell? ⟨g.ρ b, 0, none⟩ = some (.map (some (g.ρ k))) := by
  cases hr.objs b _ hb' with
  | cells _ _ arr T h1 h2 h3 h4 =>
   have hpos : 0 < arr.size := by
    simp [asOf] at h2
    omega
   have := (h3 0 (.mp k) arr[0] rfl (by simp [hpos])).mp_inv
   rw [cell?_cells h1]
   simp [hpos, this]
 have hkeys : ar.toList.map ks8 = es.map fun e => e.2.1 := by
  have := hm.keys
  have h5 : ar.toList.map ks8 = (ar.toList.map (·.key)).map fun v => match v with | .int _ n => UInt8.ofNat n.toNat | _ => 0 := by
   rw [List.map_map]; rfl
  rw [h5, this, List.map_map, List.map_map]
  apply List.map_congr_left
  intro e _
  show UInt8.ofNat ((e.2.1.toNat : Nat) : Int).toNat = e.2.1
  simp
 have hM : MapAt w (g.ρ b) (g.ρ k) ar clock ks8 := by
  have hget : ∀ e ∈ ar, ∃ (i : Nat), ∃ y, es[i]? = some y ∧ ar[i]? = some e := by
   intro e he
   obtain ⟨i, hi⟩ := List.mem_iff_getElem?.1 (Array.mem_toList_iff.2 he)
   have hi' : ar[i]? = some e := by simpa using hi
   have hlt : i < es.length := by rw [hm.len]; exact (Array.getElem?_eq_some_iff.1 hi').1
   exact ⟨i, es[i], by simp [hlt], hi'⟩
  refine ⟨hbox, hm.heap, ?_, ?_, ?_, ?_⟩
  ·intro e he
   obtain ⟨i, y, hy, hi⟩ := hget e he
   rw [(hm.at' i y e hy hi).1]
   exact hm.lt y (List.mem_of_getElem? hy)
  ·have : ar.toList.map MapEntry.born = es.map (·.1) := by
    apply List.ext_getElem?
    intro i
    rw [List.getElem?_map, List.getElem?_map, Array.getElem?_toList]
    by_cases hi : i < ar.size
    ·have hi' : i < es.length := by rw [hm.len]; exact hi
     rw [Array.getElem?_eq_getElem hi, List.getElem?_eq_getElem hi']
     have := (hm.at' i es[i] ar[i] (by simp [hi']) (by simp [hi])).1
     simp [this]
    ·rw [Array.getElem?_eq_none (by omega), List.getElem?_eq_none (by rw [hm.len]; omega)]; rfl
   rw [this]; exact hm.nodup
  ·intro e he
   obtain ⟨i, y, hy, hi⟩ := hget e he
   have := (hm.at' i y e hy hi).2.1
   show e.key = enc8 (ks8 e)
   rw [show ks8 e = y.2.1 by
    unfold ks8
    rw [this]
    show UInt8.ofNat ((y.2.1.toNat : Nat) : Int).toNat = y.2.1
    simp]
   rw [this]; rfl
  ·have := hm.len
   omega
 have h0 : HR [] (Base.of { g with β := fun _ => none } w X0) { g with β := fun _ => none } w X0 :=
  ⟨by simp, hr.sane, Nat.le_refl _, ⟨rfl, rfl, rfl, Nat.le_refl _⟩, .refl _ _, fun b _ _ => ⟨rfl, rfl⟩, by simp [X0], by simp [X0], by simp [X0], by simp [X0], by simp [X0], by simp, by simp, by simp, by simp, .off fun _ => rfl⟩
 refine ((callsIn_wide (n := 0)).1 (Qse sortI seqI h0 hM)).mono ?_
 rintro e w' ⟨gc, v, rfl, h1, h2⟩
 obtain ⟨h3, h4⟩ := hr.pureCall (gc := gc) h1
 refine hn _ _ _ h3 h4 ?_
 rw [hkeys] at h2
 cases h2 with
 | d _ _ h => exact .d _ _ h
theorem Qsf {R : Type} (o : Oper) (st : XSt) (args : Array Operand) (ts : Array TypeId) (vs : List XV) (K : Out → Option R) (r : R)
  (ho : o.op = .call { callee := .value (.func 40), args := args, argTypes := ts }) (hv : Qh st args.toList = some vs) (h : Qii o st vs K = some r) : ∃ out, K out = some r ∧ OpOk Try.prog o st out := by
 unfold Qii at h
 rw [ho] at h
 split at h
 ·rename_i c b hc
  cases hc
  split at h
  ·rename_i x k ty hx hb
   have ha : args = #[x] := Array.toList_inj.1 hx
   subst ha
   have hx' := Qxc hv
   split at h
   ·rename_i L vt es clock hk
    cases hle : Nat.ble (fgT es).length 1000000000 with
    | false => simp [hle] at h
    | true =>
     simp only [hle, cond_true] at h
     refine ⟨_, h, ⟨Qg hx', ⟨rfl, rfl, rfl, fun X hX => ?_⟩, fun _ _ _ h => h⟩⟩
     exact Qqe ho ((hX b (by simp)).trans (Q6k hb)) (fun nm B g w hr => by
      obtain ⟨ar, hm⟩ := Qog (kt := .u8) rfl (hr.objs k _ ((hX k (by simp)).trans (Q6k hk)))
      exact ⟨ar, hm.m⟩) (Nat.le_of_ble_eq_true hle)
   ·rename_i vt es clock hk
    cases hle : Nat.ble es.length 1000000000 with
    | false => simp [hle] at h
    | true =>
     simp only [hle, cond_true] at h
     refine ⟨_, h, ⟨Qg hx', ⟨rfl, rfl, rfl, fun X hX => ?_⟩, fun _ _ _ h => h⟩⟩
     exact Qqe ho ((hX b (by simp)).trans (Q6k hb)) (fun nm B g w hr => Qad (kt := .u8) rfl (hr.objs k _ ((hX k (by simp)).trans (Q6k hk)))) (Nat.le_of_ble_eq_true hle)
   ·cases h
  ·cases h
 ·cases h
noncomputable def Qgf (N : Nat) : Ent Try.prog where
 id := 40
 run := Qii
 ok := Qsf
end Go.Proofs.Xg
set_option linter.unusedVariables false
set_option maxRecDepth 100000
namespace Go.Proofs.Xg
open Go Go.Xl Go.Ab Go.Proofs Go.Proofs.Xg Go.Proofs.Xu
@[reducible] def Q7 : Ty := (.pair tDot .str)
noncomputable def Q7h (N : Nat) : Ent Try.prog := Qtt N
noncomputable def Q8j (N : Nat) : Fun [(.sl (.int .i64))] (Option (ResT [(.int .i64)])) := fun (x : List Int) => iter (fun (rec : (Int × Unit) × Unit × Unit × Unit → Option Int) (z : (Int × Unit) × Unit × Unit ×
 Unit) => bif decide (z.1.1 < (↑x.length : Int)) then (at? x z.1.1).bind fun (e : Int) => bif e != 0 then some e else rec ((IntKind.i64.wrap (z.1.1 + 1), ()), (), (), ()) else some 0) N ((0, ()), (), (), ())
theorem Qtj (N : Nat) : runF Try.prog [] [] N Try.f101 (.seq .lf (.seq .lf (.seq (.seq .lf (.blk (.loop ⟨[(8, .d (.int .i64))], [], [3, 6, 7], [], [], []⟩ .lf))) .lf))) [(.sl (.int .i64))] [(.int .i64)] = Q8j N := by kernel_rfl
noncomputable def Qrh (N : Nat) : Ent Try.prog := mkFn 101 Try.f101 _ [(.sl (.int .i64))] [(.int .i64)] (Q8j N) mixed Try.func101 (.mk' Try.func101 rfl (by decide)) rfl (Qtj N)
noncomputable def Q5e (N : Nat) : Fun [Q7, Q7] (Option (ResT [(.int .i64)])) := fun (x x_1 : (Int × Int) × List UInt8) => Option.bind (Q2w N x.1.2 x_1.1.2) fun (y : Int) =>
 Option.bind (Q2z N x.1.1 x_1.1.1) fun (y_1 : Int) => Option.bind (Q8j N [y, y_1]) fun (y : Int) => some y
theorem Qo9 (N : Nat) : runF Try.prog [Qrh N, Qhh N, Qgm N] [] N Try.f100 .lf [Q7, Q7] [(.int .i64)] = Q5e N := by kernel_rfl
noncomputable def Qfu (N : Nat) : Ent Try.prog := mkFn 100 Try.f100 _ [Q7, Q7] [(.int .i64)] (Q5e N) mixed Try.func100 (.mk' Try.func100 rfl (by decide)) rfl (Qo9 N)
@[reducible] def Q1r : CSp := ⟨[.d (.sl Q7), .clo 100 []], [], [], ⟨[(4, .p 1004 0)], [(1004, [.d Q7], some 67)], [], [], [], []⟩⟩
noncomputable def Q15 (N : Nat) : CSp.Fun Q1r (Option Q1r.out.T) := fun (y : List ((Int × Int) × List UInt8)) => Qj (fun (z : Unit × Unit
 × Unit × Unit) => y[0]?.bind fun (e : (Int × Int) × List UInt8) => iter (fun (rec : (Int × Unit) × ((((Int × Int) × List UInt8) × Unit) × Unit) × Unit × Unit → Option ((Unit × Unit) × ((((Int × Int) × List UInt8) ×
 Unit) × Unit) × Unit × Unit)) (z : (Int × Unit) × ((((Int × Int) × List UInt8) × Unit) × Unit) × Unit × Unit) => bif decide (z.1.1 < (↑y.length : Int)) then (at? y z.1.1).bind fun (e : (Int × Int) × List UInt8)
 => Option.bind (Q5e N e z.2.1.1.1) fun (y_1 : Int) => bif decide (0 < y_1) then (at? y z.1.1).bind fun (e : (Int × Int) × List UInt8) => rec ((IntKind.i64.wrap (z.1.1 + 1), ()), ((e, ()), ()),
 (), ()) else rec ((IntKind.i64.wrap (z.1.1 + 1), ()), ((z.2.1.1.1, ()), ()), (), ()) else some (((), ()), ((z.2.1.1.1, ()), ()), (), ())) N ((1, ()), ((e, ()), ()), (), ())) fun (k : Unit × Unit ×
 Unit × Unit → Option ((Unit × Unit) × ((((Int × Int) × List UInt8) × Unit) × Unit) × Unit × Unit)) => bif decide ((↑y.length : Int) < 1) then none else k ((), (), (), ())
theorem Qbh (N : Nat) : runC Try.prog [Qfu N] [] N Try.f99 (.seq .lf (.join ⟨[], [], [0, 1, 4], [1004], [], []⟩ .lf (.seq .lf (.seq (.seq .lf (.blk (.loop ⟨[(6, .d (.int .i64))], [(1005, [.d Q7], some 67)], [0, 1, 4, 5], [1004], [], []⟩ .lf))) .lf)))) Q1r = Q15 N := by kernel_rfl
noncomputable def Qbg (N : Nat) : Ent Try.prog := mkC 99 Try.f99 _ Q1r (Q15 N) mixed Try.func99 (.mk' Try.func99 rfl (by decide)) rfl rfl rfl (Qbh N)
noncomputable def Q8q (N : Nat) : Fun [(.sl Q7)] (Option (ResT [Q7, .bool])) := fun (x : List ((Int × Int) × List UInt8)) => bif (↑x.length : Int) == 0 then some (((0, 0), []), false) else Option.bind
 (Q15 N x) fun (y : (Unit × Unit) × ((((Int × Int) × List UInt8) × Unit) × Unit) × Unit × Unit) => some (y.2.1.1.1, true)
theorem Qr5 (N : Nat) : runF Try.prog [Qfu N, Qbg N] [] N Try.f74 .lf [(.sl Q7)] [Q7, .bool] = Q8q N := by kernel_rfl
noncomputable def Qtk (N : Nat) : Ent Try.prog := mkFn 74 Try.f74 _ [(.sl Q7)] [Q7, .bool] (Q8q N) mixed Try.func74 (.mk' Try.func74 rfl (by decide)) rfl (Qr5 N)
@[reducible] def Qb6 : CSp := ⟨[.d .str, .p 2 0], [(2, [.d Q7], some 67)], [], ⟨[(3, .d .bool)], [], [], [2], [], []⟩⟩
noncomputable def Q49 (N : Nat) : CSp.Fun Qb6 (Option Qb6.out.T) := fun (y : List UInt8) (y_1 : (Int × Int) × List UInt8) => some ((y == y_1.2, ()), (), (), ())
theorem Qsv (N : Nat) : runC Try.prog [] [] N Try.f77 .lf Qb6 = Q49 N := by kernel_rfl
noncomputable def Qe6 (N : Nat) : Ent Try.prog := mkC 77 Try.f77 _ Qb6 (Q49 N) mixed Try.func77 (.mk' Try.func77 rfl (by decide)) rfl rfl rfl (Qsv N)
@[reducible] def Q1b : CSp := ⟨[.os 1 .str, .clo 77 [(2, 0)]], [(2, [.d Q7], some 67)], [(1, .arr .str)], ⟨[(4, .d (.int .i64))], [], [], [2, 1], [], []⟩⟩
noncomputable def Qv (N : Nat) : CSp.Fun Q1b (Option Q1b.out.T) := fun (n : Nat) (y : (Int × Int) × List UInt8) (l : List (List
 UInt8)) => iter (fun (rec : (Int × Unit) × Unit × Unit × Unit → Option ((Int × Unit) × Unit × Unit × Unit)) (z : (Int × Unit) × Unit × Unit × Unit) => bif decide (z.1.1 < (↑n : Int)) then bif decide (0 ≤ z.1.1)
 && decide (z.1.1 < (↑n : Int)) then l[0 + z.1.1.toNat]?.bind fun (e : List UInt8) => Option.bind (Q49 N e y) fun (y : (Bool × Unit) × Unit × Unit × Unit) => bif y.1.1 then some ((z.1.1, ()), (),
 (), ()) else rec ((IntKind.i64.wrap (z.1.1 + 1), ()), (), (), ()) else none else some ((-1, ()), (), (), ())) N ((0, ()), (), (), ())
theorem Q9r (N : Nat) : runC Try.prog [Qe6 N] [] N Try.f102 (.seq .lf (.seq (.seq .lf (.blk (.loop ⟨[(8, .d (.int .i64))], [], [0, 1, 7], [1, 2], [], []⟩ .lf))) .lf)) Q1b = Qv N := by kernel_rfl
noncomputable def Q9v (N : Nat) : Ent Try.prog := mkC 102 Try.f102 _ Q1b (Qv N) mixed Try.func102 (.mk' Try.func102 rfl (by decide)) rfl rfl rfl (Q9r N)
@[reducible] def Q18 : CSp := ⟨[.os 1 .str, .clo 77 [(2, 0)]], [(2, [.d Q7], some 67)], [(1, .arr .str)], ⟨[(4, .os 1 .str)], [], [], [2], [], [(1, .arr .str)]⟩⟩
noncomputable def Qs (N : Nat) : CSp.Fun Q18 (Option Q18.out.T) := fun (n : Nat) (y : (Int × Int) × List UInt8) (l : List
 (List UInt8)) => Option.bind (Qv N n y l) fun (y_1 : (Int × Unit) × Unit × Unit × Unit) => bif y_1.1.1 == -1 then some ((n, ()), (), (), l, ()) else iter (fun (rec : (Int × Int × Unit)
 × Unit × Unit × List (List UInt8) × Unit → Option ((Nat × Unit) × Unit × Unit × List (List UInt8) × Unit)) (z : (Int × Int × Unit) × Unit × Unit × List (List UInt8) × Unit) => bif decide (z.1.2.1 < (↑n : Int))
 then bif decide (0 ≤ z.1.2.1) && decide (z.1.2.1 < (↑n : Int)) then z.2.2.2.1[0 + z.1.2.1.toNat]?.bind fun (e : List UInt8) => Option.bind (Q49 N e y) fun (y : (Bool × Unit) × Unit ×
 Unit × Unit) => bif !y.1.1 then bif decide (0 ≤ z.1.1) && decide (z.1.1 < (↑n : Int)) then z.2.2.2.1[0 + z.1.1.toNat]?.bind fun (e_1 : List UInt8) => rec ((IntKind.i64.wrap (z.1.1 + 1),
 IntKind.i64.wrap (z.1.2.1 + 1), ()), (), (), z.2.2.2.1.set (0 + z.1.1.toNat) e, ()) else none else rec ((z.1.1, IntKind.i64.wrap (z.1.2.1 + 1), ()), (), (), z.2.2.2.1, ()) else none
 else bif cutOk z.1.1 (↑n : Int) n then bif cutOk 0 z.1.1 n then some ((z.1.1.toNat - 0, ()), (), (), List.take (0 + z.1.1.toNat) z.2.2.2.1, ()) else none else none) N ((y_1.1.1,
 IntKind.i64.wrap (y_1.1.1 + 1), ()), (), (), l, ())
theorem Q9o (N : Nat) : runC Try.prog [Q9v N, Qe6 N] [] N Try.f75 (.seq .lf (.seq .lf (.seq .lf (.seq (.seq .lf (.blk (.loop ⟨[(5, .d (.int .i64)), (6, .d (.int .i64))], [], [0, 1], [2], [], [(1, .arr .str)]⟩ .lf))) .lf)))) Q18 = Qs N := by kernel_rfl
noncomputable def Q9p (N : Nat) : Ent Try.prog := mkC 75 Try.f75 _ Q18 (Qs N) mixed Try.func75 (.mk' Try.func75 rfl (by decide)) rfl rfl rfl (Q9o N)
noncomputable def Q2c (N : Nat) : FunA [] (Option (ResT (rkTys .str [.s]))) := some []
theorem Qa7 (N : Nat) : runO0 Try.prog [] [] N Try.f104 (.seq .lf (.seq .lf (.seq (.seq .lf (.blk (.loop ⟨[(3, .d (.int .i64))], [], [0], [], [], []⟩ (.seq .lf (.seq (.blk (.seq .lf (.cond (.seq .lf (.seq (.seq .lf (.blk (.loop ⟨[(3, .d (.int .i64)), (5, .d (.int .i64))], [], [0, 4], [], [], []⟩ .lf))) .lf)) .lf))) .lf))))) .lf))) .str [] [.s] = Q2c N := by kernel_rfl
noncomputable def Qy (N : Nat) : List (.str : Ty).T → Nat → FunA [] (Option (List (.str : Ty).T × ResO [.s])) := fun (l : List (List UInt8)) (n : Nat) => bif decide ((↑n : Int) < 2) then some
 (l, n) else iter (fun (rec : (Int × Unit) × Unit × Unit × List (List UInt8) × Unit → Option (List (List UInt8) × Nat)) (z : (Int × Unit) × Unit × Unit × List (List UInt8) × Unit) => bif decide (z.1.1 < (↑n : Int))
 then bif decide (0 ≤ z.1.1) && decide (z.1.1 < (↑n : Int)) then z.2.2.2.1[0 + z.1.1.toNat]?.bind fun (e : List UInt8) => bif decide (0 ≤ IntKind.i64.wrap (z.1.1 - 1)) && decide (IntKind.i64.wrap
 (z.1.1 - 1) < (↑n : Int)) then z.2.2.2.1[0 + (IntKind.i64.wrap (z.1.1 - 1)).toNat]?.bind fun (e_1 : List UInt8) => bif e == e_1 then bif cutOk z.1.1 (↑n : Int) n then iter (fun (rec : (Int × Int ×
 Unit) × Unit × Unit × List (List UInt8) × Unit → Option (List (List UInt8) × Nat)) (z_1 : (Int × Int × Unit) × Unit × Unit × List (List UInt8) × Unit) => bif decide (z_1.1.2.1 < (↑((↑n : Int).toNat -
 z.1.1.toNat) : Int)) then bif decide (0 ≤ z_1.1.2.1) && decide (z_1.1.2.1 < (↑((↑n : Int).toNat - z.1.1.toNat) : Int)) then z_1.2.2.2.1[0 + z.1.1.toNat + z_1.1.2.1.toNat]?.bind fun
 (e : List UInt8) => bif decide (0 ≤ IntKind.i64.wrap (z_1.1.2.1 - 1)) && decide (IntKind.i64.wrap (z_1.1.2.1 - 1) < (↑((↑n : Int).toNat - z.1.1.toNat) : Int)) then z_1.2.2.2.1[0 + z.1.1.toNat
 + (IntKind.i64.wrap (z_1.1.2.1 - 1)).toNat]?.bind fun (e_2 : List UInt8) => bif e != e_2 then bif decide (0 ≤ z_1.1.2.1) && decide (z_1.1.2.1 < (↑((↑n : Int).toNat - z.1.1.toNat) : Int)) then
 z_1.2.2.2.1[0 + z.1.1.toNat + z_1.1.2.1.toNat]?.bind fun (e : List UInt8) => bif decide (0 ≤ z_1.1.1) && decide (z_1.1.1 < (↑n : Int)) then z_1.2.2.2.1[0 + z_1.1.1.toNat]?.bind fun
 (e_3 : List UInt8) => rec ((IntKind.i64.wrap (z_1.1.1 + 1), IntKind.i64.wrap (z_1.1.2.1 + 1), ()), (), (), z_1.2.2.2.1.set (0 + z_1.1.1.toNat) e, ()) else none else none else rec ((z_1.1.1,
 IntKind.i64.wrap (z_1.1.2.1 + 1), ()), (), (), z_1.2.2.2.1, ()) else none else none else bif cutOk z_1.1.1 (↑n : Int) n then bif cutOk 0 z_1.1.1 n then some (List.take (0 + z_1.1.1.toNat)
 z_1.2.2.2.1, z_1.1.1.toNat - 0) else none else none) N ((z.1.1, 1, ()), (), (), z.2.2.2.1, ()) else none else rec ((IntKind.i64.wrap (z.1.1 + 1), ()), (), (), z.2.2.2.1, ()) else none
 else none else some (z.2.2.2.1, n)) N ((1, ()), (), (), l, ())
theorem Qas (N : Nat) : runO Try.prog [] [] N Try.f104 (.seq .lf (.seq .lf (.seq (.seq .lf (.blk (.loop ⟨[(3, .d (.int .i64))], [], [0], [], [], [(1, .arr .str)]⟩ (.seq .lf (.seq (.blk (.seq .lf (.cond (.seq .lf (.seq (.seq .lf (.blk (.loop ⟨[(3, .d (.int .i64)), (5, .d (.int .i64))], [], [0, 4], [], [], [(1, .arr .str)]⟩ .lf))) .lf)) .lf))) .lf))))) .lf))) .str [] [.s] = Qy N := by kernel_rfl
noncomputable def Qau (N : Nat) : Ent Try.prog := mkO2 104 Try.f104 _ _ .str [] [.s] (Qy N) (Q2c N) mixed Try.func104 (.mk' Try.func104 rfl (by decide)) rfl (Qas N) (Qa7 N)
noncomputable def Q9w (N : Nat) : FunA [.d (.sl Q7)] (Option (Option (List (.str : Ty).T × Nat))) := fun (x : List ((Int × Int) × List UInt8)) => iter (fun (rec : (Int × Unit) × Unit × (Option (List (List
 UInt8) × Nat) × Unit) × Unit → Option (Option (List (List UInt8) × Nat))) (z : (Int × Unit) × Unit × (Option (List (List UInt8) × Nat) × Unit) × Unit) => Q3o z.2.2.1.1 (bif decide (z.1.1 < (↑x.length :
 Int)) then (at? x z.1.1).bind fun (e : (Int × Int) × List UInt8) => rec ((IntKind.i64.wrap (z.1.1 + 1), ()), (), (some ([e.2], [e.2].length), ()), ()) else Option.bind (Q38 N) fun
 (y : Unit) => Option.bind (Q2c N) fun (y : List (List UInt8)) => Q6n y (some none) fun (x : List UInt8) (x_1 : List (List UInt8)) => none) fun (y : List (List UInt8) × Nat) => bif
 decide (z.1.1 < (↑x.length : Int)) then (at? x z.1.1).bind fun (e : (Int × Int) × List UInt8) => bif y.1.length.beq y.2 then bif fitsB (y.2 + [e.2].length) 16 then rec ((IntKind.i64.wrap (z.1.1 + 1),
 ()), (), (some (y.1 ++ [e.2], y.2 + [e.2].length), ()), ()) else none else none else Option.bind (F_slices_Sort_sstring_string N y.1 y.2) fun (y_1 : List (List UInt8) × Unit) => Option.bind
 (Qy N y_1.1 y.2) fun (y : List (List UInt8) × Nat) => some (some y)) N ((0, ()), (), (none, ()), ())
theorem Qty (N : Nat) : Go.Xl.runN Try.prog [Qbr N, Qau N] [16] N Try.f76 (.seq .lf (.seq .lf (.seq (.seq .lf (.blk (.loop ⟨[(8, .d (.int .i64))], [], [6, 7], [], [(3, 400003, .str)], []⟩ .lf))) .lf))) .str [.d (.sl Q7)] = Q9w N := by kernel_rfl
noncomputable def Quo (N : Nat) : Ent Try.prog := Go.Xl.mkN 76 Try.f76 _ .str [.d (.sl Q7)] (Q9w N) mixed Try.func76 (.mk' Try.func76 rfl (by decide)) rfl (Qty N)
noncomputable def Qb0 (N : Nat) : Fun [.u8, (.sl Q7)] (Option (ResT [tLine])) := fun (x : UInt8) (x_1 : List ((Int × Int) × List UInt8)) => Option.bind (Q8q N x_1) fun (y : ((Int × Int) × List UInt8)
 × Bool) => bif !y.2 then some (0, [], []) else Option.bind (Q9w N x_1) fun (y_1 : Option (List (List UInt8) × Nat)) => Q3o y_1 none fun (z : List (List UInt8) × Nat) => Option.bind
 (Qs N z.2 y.1 z.1) fun (y_2 : (Nat × Unit) × Unit × Unit × List (List UInt8) × Unit) => bif (0 + y_2.1.1).ble y_2.2.2.2.1.length then some (x, y.1.2, List.take
 y_2.1.1 (List.drop 0 y_2.2.2.2.1)) else none
theorem Qwm (N : Nat) : runF Try.prog [Qtk N, Q9p N, Quo N, Qe6 N] [] N Try.f42 (.seq .lf (.seq .lf (.seq .lf (.fz [7] .lf .lf)))) [.u8, (.sl Q7)] [tLine] = Qb0 N := by kernel_rfl
noncomputable def Qx1 (N : Nat) : Ent Try.prog := mkFn 42 Try.f42 _ [.u8, (.sl Q7)] [tLine] (Qb0 N) mixed Try.func42 (.mk' Try.func42 rfl (by decide)) rfl (Qwm N)
noncomputable def Q58 (N : Nat) : Fun [(.sl tEvent), (.int .u64)] (Option (ResT [tCard, .bool])) := fun (x : List ((Int × Int) × UInt8 × Int × UInt8 × List UInt8 × List (Int × Int))) (x_1 : Int) => iter (fun (rec
 : (Int × Unit) × Unit × Unit × (List (Nat × UInt8 × Bool × List ((Int × Int) × List UInt8)) × Nat) × Unit → Option ((Int × List (UInt8 × List UInt8 × List (List UInt8))) × Bool)) (z : (Int × Unit) × Unit × Unit × (List
 (Nat × UInt8 × Bool × List ((Int × Int) × List UInt8)) × Nat) × Unit) => bif decide (z.1.1 < (↑x.length : Int)) then (at? x z.1.1).bind fun (e : (Int × Int) × UInt8 × Int × UInt8 × List UInt8 × List (Int × Int))
 => bif e.2.1 == 1 then bif e.2.2.1 == x_1 then bif Qyb Ty.u8 Q7 e.2.2.2.1 z.2.2.2.1.1 then bif fitsB ((tvalX Ty.u8 Q7 e.2.2.2.1 z.2.2.2.1.1).length + [(e.1,
 e.2.2.2.2.1)].length) 32 then rec ((IntKind.i64.wrap (z.1.1 + 1), ()), (), (), (tputX Ty.u8 Q7 e.2.2.2.1 (tvalX Ty.u8 Q7 e.2.2.2.1 z.2.2.2.1.1 ++ [(e.1,
 e.2.2.2.2.1)]) true z.2.2.2.1.2 (toffX Ty.u8 Q7 e.2.2.2.1 z.2.2.2.1.1), mclkX Ty.u8 Q7.sl e.2.2.2.1 (fgTX Ty.u8 Q7 (toffX Ty.u8 Q7 e.2.2.2.1
 z.2.2.2.1.1)) z.2.2.2.1.2), ()) else none else none else rec ((IntKind.i64.wrap (z.1.1 + 1), ()), (), (), z.2.2.2.1, ()) else rec ((IntKind.i64.wrap (z.1.1 + 1), ()), (), (),
 z.2.2.2.1, ()) else bif (↑(List.length (fgTX Ty.u8 Q7 z.2.2.2.1.1)) : Int) == 0 then some ((0, []), false) else bif (List.length (fgTX Ty.u8 Q7 z.2.2.2.1.1)).ble 1000000000 then iter
 (fun (rec : (Int × Unit) × ((Int × List (UInt8 × List UInt8 × List (List UInt8)) × Unit) × Unit) × Unit × Unit → Option ((Int × List (UInt8 × List UInt8 × List (List UInt8))) × Bool)) (z_1 : (Int × Unit) × ((Int × List
 (UInt8 × List UInt8 × List (List UInt8)) × Unit) × Unit) × Unit × Unit) => bif decide (z_1.1.1 < (↑(keys8 (fgTX Ty.u8 Q7 z.2.2.2.1.1)).length : Int)) then (at? (keys8 (fgTX Ty.u8 Q7
 z.2.2.2.1.1)) z_1.1.1).bind fun (e : UInt8) => Option.bind (Qb0 N e ((mgetX Ty.u8 Q7.sl e (fgTX Ty.u8 Q7 z.2.2.2.1.1)).getD [])) fun (y : UInt8 × List UInt8 × List (List UInt8)) =>
 bif fitsB (z_1.2.1.1.2.1.length + [y].length) 48 then rec ((IntKind.i64.wrap (z_1.1.1 + 1), ()), ((z_1.2.1.1.1, z_1.2.1.1.2.1 ++ [y], ()), ()), (), ()) else none else some
 ((z_1.2.1.1.1, z_1.2.1.1.2.1), true)) N ((0, ()), ((x_1, [], ()), ()), (), ()) else none) N ((0, ()), (), (), ([], 0), ())
theorem Qtw (N : Nat) : runF Try.prog [Qgf N, Q7h N, Qx1 N] [12] N Try.f10 (.seq .lf (.seq .lf (.fg (.seq .lf (.blk (.loop ⟨[(15, .d (.int .i64))], [], [1, 4, 6, 13, 14], [1004], [], [(1012, .mapt 501012 .u8 Q7)]⟩ .lf))) (.seq .lf (.seq .lf (.seq (.seq .lf (.blk (.loop ⟨[(53, .d (.int .i64))], [(1009, [.d (.int .u64), .tip 300901 tLine none], some 28)], [4, 6, 9, 51, 52], [1004, 1012], [], []⟩ .lf))) .lf)))))) [(.sl tEvent), (.int .u64)] [tCard, .bool] = Q58 N := by kernel_rfl
noncomputable def Qfk (N : Nat) : Ent Try.prog := mkFn 10 Try.f10 _ [(.sl tEvent), (.int .u64)] [tCard, .bool] (Q58 N) mixed Try.func10 (.mk' Try.func10 rfl (by decide)) rfl (Qtw N)
noncomputable def Q2k (N : Nat) : Fun [(.sl tEvent), (.int .u64), .u8] (Option (ResT [(.sl Q7)])) := fun (x : List ((Int × Int) × UInt8 × Int × UInt8 × List UInt8 × List (Int × Int))) (x_1 : Int)
 (x_2 : UInt8) => iter (fun (rec : (List ((Int × Int) × List UInt8) × Int × Unit) × Unit × Unit × Unit → Option (List ((Int × Int) × List UInt8))) (z : (List ((Int × Int) × List UInt8) × Int × Unit) × Unit × Unit × Unit)
 => bif decide (z.1.2.1 < (↑x.length : Int)) then (at? x z.1.2.1).bind fun (e : (Int × Int) × UInt8 × Int × UInt8 × List UInt8 × List (Int × Int)) => bif e.2.1 == 1 then (at? x z.1.2.1).bind fun (e
 : (Int × Int) × UInt8 × Int × UInt8 × List UInt8 × List (Int × Int)) => bif e.2.2.1 == x_1 then (at? x z.1.2.1).bind fun (e : (Int × Int) × UInt8 × Int × UInt8 × List UInt8 × List (Int × Int)) => bif
 e.2.2.2.1 == x_2 then (at? x z.1.2.1).bind fun (e : (Int × Int) × UInt8 × Int × UInt8 × List UInt8 × List (Int × Int)) => (at? x z.1.2.1).bind fun (e_1 : (Int × Int) × UInt8 × Int × UInt8 × List
 UInt8 × List (Int × Int)) => bif fitsB (z.1.1.length + [(e.1, e_1.2.2.2.2.1)].length) 32 then rec ((z.1.1 ++ [(e.1, e_1.2.2.2.2.1)], IntKind.i64.wrap (z.1.2.1 + 1), ()), (), (), ())
 else none else rec ((z.1.1, IntKind.i64.wrap (z.1.2.1 + 1), ()), (), (), ()) else rec ((z.1.1, IntKind.i64.wrap (z.1.2.1 + 1), ()), (), (), ()) else rec ((z.1.1, IntKind.i64.wrap (z.1.2.1 +
 1), ()), (), (), ()) else some z.1.1) N (([], 0, ()), (), (), ())
theorem Qfr (N : Nat) : runF Try.prog [] [] N Try.f43 (.seq .lf (.seq .lf (.seq (.seq .lf (.blk (.loop ⟨[(7, .tip 200007 Q7 none), (8, .d (.int .i64))], [], [0, 1, 2], [], [], []⟩ .lf))) .lf))) [(.sl tEvent), (.int .u64), .u8] [(.sl Q7)] = Q2k N := by kernel_rfl
noncomputable def Qga (N : Nat) : Ent Try.prog := mkFn 43 Try.f43 _ [(.sl tEvent), (.int .u64), .u8] [(.sl Q7)] (Q2k N) mixed Try.func43 (.mk' Try.func43 rfl (by decide)) rfl (Qfr N)
noncomputable def Q1z (N : Nat) : Fun [Q7, Q7] (Option (ResT [.bool])) := fun (x x_1 : (Int × Int) × List UInt8) => bif decide (x_1.1.2 < x.1.2) then some true else bif x.1.2 ==
 x_1.1.2 then some (decide (x_1.1.1 < x.1.1)) else some false
theorem Qhm (N : Nat) : runF Try.prog [] [] N Try.f105 .lf [Q7, Q7] [.bool] = Q1z N := by kernel_rfl
noncomputable def Qhk (N : Nat) : Ent Try.prog := mkFn 105 Try.f105 _ [Q7, Q7] [.bool] (Q1z N) mixed Try.func105 (.mk' Try.func105 rfl (by decide)) rfl (Qhm N)
noncomputable def Q2j (N : Nat) : Fun [(.sl Q7)] (Option (ResT [Q7, .bool])) := fun (x : List ((Int × Int) × List UInt8)) => bif (↑x.length : Int) == 0 then some (((0, 0), []), false) else
 x[0]?.bind fun (e : (Int × Int) × List UInt8) => iter (fun (rec : (Int × Unit) × ((((Int × Int) × List UInt8) × Unit) × Unit) × Unit × Unit → Option (((Int × Int) × List UInt8) × Bool)) (z : (Int × Unit) × ((((Int ×
 Int) × List UInt8) × Unit) × Unit) × Unit × Unit) => bif decide (z.1.1 < (↑x.length : Int)) then (at? x z.1.1).bind fun (e : (Int × Int) × List UInt8) => Option.bind (Q1z N e z.2.1.1.1)
 fun (y : Bool) => bif y then (at? x z.1.1).bind fun (e : (Int × Int) × List UInt8) => rec ((IntKind.i64.wrap (z.1.1 + 1), ()), ((e, ()), ()), (), ()) else rec ((IntKind.i64.wrap (z.1.1 + 1), ()),
 ((z.2.1.1.1, ()), ()), (), ()) else some (z.2.1.1.1, true)) N ((1, ()), ((e, ()), ()), (), ())
theorem Qgi (N : Nat) : runF Try.prog [Qhk N] [] N Try.f78 (.seq .lf (.seq .lf (.seq .lf (.seq (.seq .lf (.blk (.loop ⟨[(5, .d (.int .i64))], [(1004, [.d Q7], some 67)], [0, 2, 4], [1002], [], []⟩ .lf))) .lf)))) [(.sl Q7)] [Q7, .bool] = Q2j N := by kernel_rfl
noncomputable def Qfq (N : Nat) : Ent Try.prog := mkFn 78 Try.f78 _ [(.sl Q7)] [Q7, .bool] (Q2j N) mixed Try.func78 (.mk' Try.func78 rfl (by decide)) rfl (Qgi N)
noncomputable def Q4i (N : Nat) : Fun [(.sl .str), .str] (Option (ResT [(.sl .str)])) := fun (x : List (List UInt8)) (x_1 : List UInt8) => iter (fun (rec : (List (List UInt8) × Int × Unit) × Unit × Unit ×
 Unit → Option (List (List UInt8))) (z : (List (List UInt8) × Int × Unit) × Unit × Unit × Unit) => bif decide (z.1.2.1 < (↑x.length : Int)) then (at? x z.1.2.1).bind fun (e : List UInt8) => bif Op.bytesLess e
 x_1 then (at? x z.1.2.1).bind fun (e : List UInt8) => bif fitsB (z.1.1.length + [e].length) 16 then rec ((z.1.1 ++ [e], IntKind.i64.wrap (z.1.2.1 + 1), ()), (), (), ()) else none else rec
 ((z.1.1, IntKind.i64.wrap (z.1.2.1 + 1), ()), (), (), ()) else bif fitsB (z.1.1.length + [x_1].length) 16 then iter (fun (rec : (List (List UInt8) × Int × Unit) × Unit × Unit × Unit → Option (List (List
 UInt8))) (z : (List (List UInt8) × Int × Unit) × Unit × Unit × Unit) => bif decide (z.1.2.1 < (↑x.length : Int)) then (at? x z.1.2.1).bind fun (e : List UInt8) => bif !(Op.bytesLess e x_1 || e == x_1) then
 (at? x z.1.2.1).bind fun (e : List UInt8) => bif fitsB (z.1.1.length + [e].length) 16 then rec ((z.1.1 ++ [e], IntKind.i64.wrap (z.1.2.1 + 1), ()), (), (), ()) else none else rec ((z.1.1,
 IntKind.i64.wrap (z.1.2.1 + 1), ()), (), (), ()) else some z.1.1) N ((z.1.1 ++ [x_1], 0, ()), (), (), ()) else none) N (([], 0, ()), (), (), ())
theorem Qie (N : Nat) : runF Try.prog [] [] N Try.f106 (.seq .lf (.seq .lf (.seq (.seq .lf (.blk (.loop ⟨[(5, .tip 200005 .str none), (6, .d (.int .i64))], [], [0, 1], [], [], []⟩ .lf))) (.seq .lf (.seq (.seq .lf (.blk (.loop ⟨[(5, .tip 200005 .str none), (7, .d (.int .i64))], [], [0, 1], [], [], []⟩ .lf))) .lf))))) [(.sl .str), .str] [(.sl .str)] = Q4i N := by kernel_rfl
noncomputable def Qio (N : Nat) : Ent Try.prog := mkFn 106 Try.f106 _ [(.sl .str), .str] [(.sl .str)] (Q4i N) mixed Try.func106 (.mk' Try.func106 rfl (by decide)) rfl (Qie N)
noncomputable def Q2q (N : Nat) : Fun [(.sl Q7)] (Option (ResT [(.sl .str)])) := fun (x : List ((Int × Int) × List UInt8)) => iter (fun (rec : (List (List UInt8) × Int × Unit) × Unit × Unit × Unit →
 Option (List (List UInt8))) (z : (List (List UInt8) × Int × Unit) × Unit × Unit × Unit) => bif decide (z.1.2.1 < (↑x.length : Int)) then (at? x z.1.2.1).bind fun (e : (Int × Int) × List UInt8) => Option.bind
 (Q4i N z.1.1 e.2) fun (y : List (List UInt8)) => rec ((y, IntKind.i64.wrap (z.1.2.1 + 1), ()), (), (), ()) else some z.1.1) N (([], 0, ()), (), (), ())
theorem Qh0 (N : Nat) : runF Try.prog [Qio N] [] N Try.f79 (.seq .lf (.seq .lf (.seq (.seq .lf (.blk (.loop ⟨[(3, .d (.sl .str)), (4, .d (.int .i64))], [], [0], [], [], []⟩ .lf))) .lf))) [(.sl Q7)] [(.sl .str)] = Q2q N := by kernel_rfl
noncomputable def Qhj (N : Nat) : Ent Try.prog := mkFn 79 Try.f79 _ [(.sl Q7)] [(.sl .str)] (Q2q N) mixed Try.func79 (.mk' Try.func79 rfl (by decide)) rfl (Qh0 N)
noncomputable def Q3a (N : Nat) : Fun [.u8, (.sl Q7)] (Option (ResT [tLine])) := fun (x : UInt8) (x_1 : List ((Int × Int) × List UInt8)) => Option.bind (Q2j N x_1) fun (y : ((Int ×
 Int) × List UInt8) × Bool) => bif !y.2 then some (0, [], []) else Option.bind (Q2q N x_1) fun (y_1 : List (List UInt8)) => iter (fun (rec : (Int × Unit) × (((UInt8 × List UInt8 × List (List UInt8)) ×
 Unit) × Unit) × Unit × Unit → Option (UInt8 × List UInt8 × List (List UInt8))) (z : (Int × Unit) × (((UInt8 × List UInt8 × List (List UInt8)) × Unit) × Unit) × Unit × Unit) => bif decide (z.1.1 < (↑y_1.length :
 Int)) then (at? y_1 z.1.1).bind fun (e : List UInt8) => bif e != y.1.2 then bif fitsB (0 + z.2.1.1.1.2.2.length) 16 then (at? y_1 z.1.1).bind fun (e : List UInt8) => bif fitsB (([] ++
 z.2.1.1.1.2.2).length + [e].length) 16 then rec ((IntKind.i64.wrap (z.1.1 + 1), ()), (((z.2.1.1.1.1, z.2.1.1.1.2.1, [] ++ z.2.1.1.1.2.2 ++ [e]), ()), ()), (), ()) else
 none else none else rec ((IntKind.i64.wrap (z.1.1 + 1), ()), ((z.2.1.1.1, ()), ()), (), ()) else some z.2.1.1.1) N ((0, ()), (((x, y.1.2, []), ()), ()), (), ())
theorem Qi8 (N : Nat) : runF Try.prog [Qfq N, Qhj N] [] N Try.f44 (.seq .lf (.seq .lf (.seq .lf (.seq .lf (.seq .lf (.seq (.seq .lf (.blk (.loop ⟨[(9, .d (.int .i64))], [(1007, [.d tLine], some 63)], [4, 5, 7, 8], [1004, 1005], [], []⟩ .lf))) .lf)))))) [.u8, (.sl Q7)] [tLine] = Q3a N := by kernel_rfl
noncomputable def Qi2 (N : Nat) : Ent Try.prog := mkFn 44 Try.f44 _ [.u8, (.sl Q7)] [tLine] (Q3a N) mixed Try.func44 (.mk' Try.func44 rfl (by decide)) rfl (Qi8 N)
noncomputable def Q24 (N : Nat) : Fun [(.sl tEvent), (.int .u64)] (Option (ResT [tCard, .bool])) := fun (x : List ((Int × Int) × UInt8 × Int × UInt8 × List UInt8 × List (Int × Int))) (x_1 : Int) => iter
 (fun (rec : (Int × Unit) × (((Int × List (UInt8 × List UInt8 × List (List UInt8))) × Unit) × Unit) × Unit × Unit → Option ((Int × List (UInt8 × List UInt8 × List (List UInt8))) × Bool)) (z : (Int × Unit) × (((Int × List
 (UInt8 × List UInt8 × List (List UInt8))) × Unit) × Unit) × Unit × Unit) => bif decide (z.1.1 < 256) then Option.bind (Q2k N x x_1 (toU8 (IntKind.u8.wrap z.1.1))) fun (y : List ((Int × Int) ×
 List UInt8)) => bif decide (0 < (↑y.length : Int)) then bif fitsB (0 + z.2.1.1.1.2.length) 48 then Option.bind (Q3a N (toU8 (IntKind.u8.wrap z.1.1)) y) fun (y : UInt8 × List UInt8 × List
 (List UInt8)) => bif fitsB (([] ++ z.2.1.1.1.2).length + [y].length) 48 then rec ((IntKind.i64.wrap (z.1.1 + 1), ()), (((z.2.1.1.1.1, [] ++ z.2.1.1.1.2 ++ [y]), ()), ()), (), ()) else
 none else none else rec ((IntKind.i64.wrap (z.1.1 + 1), ()), ((z.2.1.1.1, ()), ()), (), ()) else bif (↑z.2.1.1.1.2.length : Int) == 0 then some ((0, []), false) else some (z.2.1.1.1, true))
 N ((0, ()), (((x_1, []), ()), ()), (), ())
theorem Qi7 (N : Nat) : runF Try.prog [Qga N, Qi2 N] [] N Try.f11 (.seq .lf (.seq .lf (.seq (.seq .lf (.blk (.loop ⟨[(7, .d (.int .i64))], [(1006, [.d tCard], some 28)], [0, 1, 4, 6], [1004], [], []⟩ .lf))) .lf))) [(.sl tEvent), (.int .u64)] [tCard, .bool] = Q24 N := by kernel_rfl
noncomputable def Qbo (N : Nat) : Ent Try.prog := mkFn 11 Try.f11 _ [(.sl tEvent), (.int .u64)] [tCard, .bool] (Q24 N) mixed Try.func11 (.mk' Try.func11 rfl (by decide)) rfl (Qi7 N)
noncomputable def Q32 (N : Nat) : Fun [(.sl .str), (.sl .str)] (Option (ResT [.bool])) := fun (x x_1 : List (List UInt8)) => bif (↑x.length : Int) != (↑x_1.length : Int) then some false else iter (fun
 (rec : (Int × Unit) × Unit × Unit × Unit → Option Bool) (z : (Int × Unit) × Unit × Unit × Unit) => bif decide (z.1.1 < (↑x.length : Int)) then (at? x z.1.1).bind fun (e : List UInt8) => (at? x_1 z.1.1).bind
 fun (e_1 : List UInt8) => bif e != e_1 then some false else rec ((IntKind.i64.wrap (z.1.1 + 1), ()), (), (), ()) else some true) N ((0, ()), (), (), ())
theorem Qh7 (N : Nat) : runF Try.prog [] [] N Try.f80 (.seq .lf (.seq .lf (.seq (.seq .lf (.blk (.loop ⟨[(5, .d (.int .i64))], [], [0, 1], [], [], []⟩ .lf))) .lf))) [(.sl .str), (.sl .str)] [.bool] = Q32 N := by kernel_rfl
noncomputable def Qh8 (N : Nat) : Ent Try.prog := mkFn 80 Try.f80 _ [(.sl .str), (.sl .str)] [.bool] (Q32 N) mixed Try.func80 (.mk' Try.func80 rfl (by decide)) rfl (Qh7 N)
noncomputable def Q2y (N : Nat) : Fun [(.sl tLine), (.sl tLine)] (Option (ResT [.bool])) := fun (x x_1 : List (UInt8 × List UInt8 × List (List UInt8))) => bif (↑x.length : Int) != (↑x_1.length : Int)
 then some false else iter (fun (rec : (Int × Unit) × Unit × Unit × Unit → Option Bool) (z : (Int × Unit) × Unit × Unit × Unit) => bif decide (z.1.1 < (↑x.length : Int)) then (at? x z.1.1).bind fun (e : UInt8 ×
 List UInt8 × List (List UInt8)) => (at? x_1 z.1.1).bind fun (e_1 : UInt8 × List UInt8 × List (List UInt8)) => bif e.1 != e_1.1 then some false else (at? x z.1.1).bind fun (e : UInt8 × List UInt8 × List (List
 UInt8)) => (at? x_1 z.1.1).bind fun (e_2 : UInt8 × List UInt8 × List (List UInt8)) => bif e.2.1 != e_2.2.1 then some false else (at? x z.1.1).bind fun (e : UInt8 × List UInt8 × List (List UInt8)) => (at?
 x_1 z.1.1).bind fun (e_3 : UInt8 × List UInt8 × List (List UInt8)) => Option.bind (Q32 N e.2.2 e_3.2.2) fun (y : Bool) => bif !y then some false else rec ((IntKind.i64.wrap (z.1.1 + 1),
 ()), (), (), ()) else some true) N ((0, ()), (), (), ())
theorem Qgy (N : Nat) : runF Try.prog [Qh8 N] [] N Try.f45 (.seq .lf (.seq .lf (.seq (.seq .lf (.blk (.loop ⟨[(5, .d (.int .i64))], [], [0, 1], [], [], []⟩ .lf))) .lf))) [(.sl tLine), (.sl tLine)] [.bool] = Q2y N := by kernel_rfl
noncomputable def Qgx (N : Nat) : Ent Try.prog := mkFn 45 Try.f45 _ [(.sl tLine), (.sl tLine)] [.bool] (Q2y N) mixed Try.func45 (.mk' Try.func45 rfl (by decide)) rfl (Qgy N)
noncomputable def Q1l (N : Nat) : Fun [tCard, tCard] (Option (ResT [.bool])) := fun (x x_1 : Int × List (UInt8 × List UInt8 × List (List UInt8))) => bif x.1 == x_1.1 then Option.bind
 (Q2y N x.2 x_1.2) fun (y : Bool) => some y else some false
theorem Qi4 (N : Nat) : runF Try.prog [Qgx N] [] N Try.f12 .lf [tCard, tCard] [.bool] = Q1l N := by kernel_rfl
noncomputable def Q82 (N : Nat) : Ent Try.prog := mkFn 12 Try.f12 _ [tCard, tCard] [.bool] (Q1l N) mixed Try.func12 (.mk' Try.func12 rfl (by decide)) rfl (Qi4 N)
noncomputable def Q47 (N : Nat) : Fun [(.sl tCard), (.sl tCard)] (Option (ResT [.bool])) := fun (x x_1 : List (Int × List (UInt8 × List UInt8 × List (List UInt8)))) => bif (↑x.length : Int) != (↑x_1.length
 : Int) then some false else iter (fun (rec : (Int × Unit) × Unit × Unit × Unit → Option Bool) (z : (Int × Unit) × Unit × Unit × Unit) => bif decide (z.1.1 < (↑x.length : Int)) then (at? x z.1.1).bind fun (e :
 Int × List (UInt8 × List UInt8 × List (List UInt8))) => (at? x_1 z.1.1).bind fun (e_1 : Int × List (UInt8 × List UInt8 × List (List UInt8))) => Option.bind (Q1l N e e_1) fun (y : Bool) => bif !y then
 some false else rec ((IntKind.i64.wrap (z.1.1 + 1), ()), (), (), ()) else some true) N ((0, ()), (), (), ())
theorem Qjh (N : Nat) : runF Try.prog [Q82 N] [] N Try.f13 (.seq .lf (.seq .lf (.seq (.seq .lf (.blk (.loop ⟨[(5, .d (.int .i64))], [], [0, 1], [], [], []⟩ .lf))) .lf))) [(.sl tCard), (.sl tCard)] [.bool] = Q47 N := by kernel_rfl
noncomputable def Qig (N : Nat) : Ent Try.prog := mkFn 13 Try.f13 _ [(.sl tCard), (.sl tCard)] [.bool] (Q47 N) mixed Try.func13 (.mk' Try.func13 rfl (by decide)) rfl (Qjh N)
noncomputable def Q1f (N : Nat) : FunA [] (Option (ResT (rkTys (.int .u64) [.s]))) := some []
theorem Qa9 (N : Nat) : runO0 Try.prog [] [] N Try.f47 (.seq .lf (.seq .lf (.seq (.seq .lf (.blk (.loop ⟨[(3, .d (.int .i64))], [], [0], [], [], []⟩ (.seq .lf (.seq (.blk (.seq .lf (.cond (.seq .lf (.seq (.seq .lf (.blk (.loop ⟨[(3, .d (.int .i64)), (5, .d (.int .i64))], [], [0, 4], [], [], []⟩ .lf))) .lf)) .lf))) .lf))))) .lf))) (.int .u64) [] [.s] = Q1f N := by kernel_rfl
noncomputable def Qz (N : Nat) : List ((.int .u64) : Ty).T → Nat → FunA [] (Option (List ((.int .u64) : Ty).T × ResO [.s])) := fun (l : List Int) (n : Nat) => bif decide ((↑n : Int) < 2) then
 some (l, n) else iter (fun (rec : (Int × Unit) × Unit × Unit × List Int × Unit → Option (List Int × Nat)) (z : (Int × Unit) × Unit × Unit × List Int × Unit) => bif decide (z.1.1 < (↑n : Int)) then bif decide (0 ≤
 z.1.1) && decide (z.1.1 < (↑n : Int)) then z.2.2.2.1[0 + z.1.1.toNat]?.bind fun (e : Int) => bif decide (0 ≤ IntKind.i64.wrap (z.1.1 - 1)) && decide (IntKind.i64.wrap (z.1.1 - 1) < (↑n :
 Int)) then z.2.2.2.1[0 + (IntKind.i64.wrap (z.1.1 - 1)).toNat]?.bind fun (e_1 : Int) => bif e == e_1 then bif cutOk z.1.1 (↑n : Int) n then iter (fun (rec : (Int × Int × Unit) × Unit × Unit × List Int ×
 Unit → Option (List Int × Nat)) (z_1 : (Int × Int × Unit) × Unit × Unit × List Int × Unit) => bif decide (z_1.1.2.1 < (↑((↑n : Int).toNat - z.1.1.toNat) : Int)) then bif decide (0 ≤ z_1.1.2.1) && decide
 (z_1.1.2.1 < (↑((↑n : Int).toNat - z.1.1.toNat) : Int)) then z_1.2.2.2.1[0 + z.1.1.toNat + z_1.1.2.1.toNat]?.bind fun (e : Int) => bif decide (0 ≤ IntKind.i64.wrap (z_1.1.2.1 - 1)) &&
 decide (IntKind.i64.wrap (z_1.1.2.1 - 1) < (↑((↑n : Int).toNat - z.1.1.toNat) : Int)) then z_1.2.2.2.1[0 + z.1.1.toNat + (IntKind.i64.wrap (z_1.1.2.1 - 1)).toNat]?.bind fun (e_2 : Int) => bif
 e != e_2 then bif decide (0 ≤ z_1.1.2.1) && decide (z_1.1.2.1 < (↑((↑n : Int).toNat - z.1.1.toNat) : Int)) then z_1.2.2.2.1[0 + z.1.1.toNat + z_1.1.2.1.toNat]?.bind fun (e : Int) => bif
 decide (0 ≤ z_1.1.1) && decide (z_1.1.1 < (↑n : Int)) then z_1.2.2.2.1[0 + z_1.1.1.toNat]?.bind fun (e_3 : Int) => rec ((IntKind.i64.wrap (z_1.1.1 + 1), IntKind.i64.wrap (z_1.1.2.1 + 1),
 ()), (), (), z_1.2.2.2.1.set (0 + z_1.1.1.toNat) e, ()) else none else none else rec ((z_1.1.1, IntKind.i64.wrap (z_1.1.2.1 + 1), ()), (), (), z_1.2.2.2.1, ()) else none else none else bif
 cutOk z_1.1.1 (↑n : Int) n then bif cutOk 0 z_1.1.1 n then some (List.take (0 + z_1.1.1.toNat) z_1.2.2.2.1, z_1.1.1.toNat - 0) else none else none) N ((z.1.1, 1, ()), (), (),
 z.2.2.2.1, ()) else none else rec ((IntKind.i64.wrap (z.1.1 + 1), ()), (), (), z.2.2.2.1, ()) else none else none else some (z.2.2.2.1, n)) N ((1, ()), (), (), l, ())
theorem Qaw (N : Nat) : runO Try.prog [] [] N Try.f47 (.seq .lf (.seq .lf (.seq (.seq .lf (.blk (.loop ⟨[(3, .d (.int .i64))], [], [0], [], [], [(1, .arr (.int .u64))]⟩ (.seq .lf (.seq (.blk (.seq .lf (.cond (.seq .lf (.seq (.seq .lf (.blk (.loop ⟨[(3, .d (.int .i64)), (5, .d (.int .i64))], [], [0, 4], [], [], [(1, .arr (.int .u64))]⟩ .lf))) .lf)) .lf))) .lf))))) .lf))) (.int .u64) [] [.s] = Qz N := by kernel_rfl
noncomputable def Qam (N : Nat) : Ent Try.prog := mkO2 47 Try.f47 _ _ (.int .u64) [] [.s] (Qz N) (Q1f N) mixed Try.func47 (.mk' Try.func47 rfl (by decide)) rfl (Qaw N) (Qa9 N)
noncomputable def Q9q (N : Nat) : Fun [(.sl tEvent)] (Option (ResT [(.sl tCard)])) := fun (x : List ((Int × Int) × UInt8 × Int × UInt8 × List UInt8 × List (Int × Int))) => iter (fun (rec : (Int × Unit) × Unit ×
 (Option (List Int × Nat) × Unit) × Unit → Option (List (Int × List (UInt8 × List UInt8 × List (List UInt8))))) (z : (Int × Unit) × Unit × (Option (List Int × Nat) × Unit) × Unit) => Q3o z.2.2.1.1 (bif decide
 (z.1.1 < (↑x.length : Int)) then (at? x z.1.1).bind fun (e : (Int × Int) × UInt8 × Int × UInt8 × List UInt8 × List (Int × Int)) => bif e.2.1 == 1 then rec ((IntKind.i64.wrap (z.1.1 + 1), ()), (), (some
 ([e.2.2.1], [e.2.2.1].length), ()), ()) else rec ((IntKind.i64.wrap (z.1.1 + 1), ()), (), (none, ()), ()) else Option.bind (F0_slices_Sort_suint64_uint64 N) fun (y : Unit) => Option.bind
 (Q1f N) fun (y : List Int) => iter (fun (rec : (List (Int × List (UInt8 × List UInt8 × List (List UInt8))) × Int × Unit) × Unit × Unit × Unit → Option (List (Int × List (UInt8 × List UInt8 ×
 List (List UInt8))))) (z : (List (Int × List (UInt8 × List UInt8 × List (List UInt8))) × Int × Unit) × Unit × Unit × Unit) => bif decide (z.1.2.1 < (↑y.length : Int)) then (at? y z.1.2.1).bind fun (e : Int)
 => Option.bind (Q58 N x e) fun (y : (Int × List (UInt8 × List UInt8 × List (List UInt8))) × Bool) => bif fitsB (z.1.1.length + [y.1].length) 32 then rec ((z.1.1 ++ [y.1], IntKind.i64.wrap
 (z.1.2.1 + 1), ()), (), (), ()) else none else some z.1.1) N (([], 0, ()), (), (), ())) fun (y : List Int × Nat) => bif decide (z.1.1 < (↑x.length : Int)) then (at? x z.1.1).bind fun (e : (Int × Int) ×
 UInt8 × Int × UInt8 × List UInt8 × List (Int × Int)) => bif e.2.1 == 1 then bif y.1.length.beq y.2 then bif fitsB (y.2 + [e.2.2.1].length) 8 then rec ((IntKind.i64.wrap (z.1.1 + 1), ()), (), (some
 (y.1 ++ [e.2.2.1], y.2 + [e.2.2.1].length), ()), ()) else none else none else rec ((IntKind.i64.wrap (z.1.1 + 1), ()), (), (some y, ()), ()) else Option.bind (F_slices_Sort_suint64_uint64 N y.1
 y.2) fun (y_1 : List Int × Unit) => Option.bind (Qz N y_1.1 y.2) fun (y : List Int × Nat) => bif (0 + y.2).ble y.1.length then iter (fun (rec : (List (Int × List (UInt8 × List
 UInt8 × List (List UInt8))) × Int × Unit) × Unit × Unit × Unit → Option (List (Int × List (UInt8 × List UInt8 × List (List UInt8))))) (z : (List (Int × List (UInt8 × List UInt8 × List (List UInt8))) × Int × Unit) × Unit
 × Unit × Unit) => bif decide (z.1.2.1 < (↑y.2 : Int)) then (at? (List.take y.2 (List.drop 0 y.1)) z.1.2.1).bind fun (e : Int) => Option.bind (Q58 N x e) fun (y : (Int × List (UInt8 × List UInt8
 × List (List UInt8))) × Bool) => bif fitsB (z.1.1.length + [y.1].length) 32 then rec ((z.1.1 ++ [y.1], IntKind.i64.wrap (z.1.2.1 + 1), ()), (), (), ()) else none else some z.1.1) N (([], 0, ()),
 (), (), ()) else none) N ((0, ()), (), (none, ()), ())
theorem Qu0 (N : Nat) : runF Try.prog [Qfk N, Qbq N, Qam N] [24] N Try.f14 (.seq .lf (.seq .lf (.seq (.seq .lf (.blk (.loop ⟨[(13, .d (.int .i64))], [], [0, 11, 12], [], [(3, 400003, (.int .u64))], []⟩ .lf))) (.seq .lf (.seq .lf (.seq (.fz [29] .lf (.blk (.loop ⟨[(6, .tip 200006 tCard none), (31, .d (.int .i64))], [], [0, 29, 30], [], [], []⟩ .lf))) .lf)))))) [(.sl tEvent)] [(.sl tCard)] = Q9q N := by kernel_rfl
noncomputable def Qui (N : Nat) : Ent Try.prog := mkFn 14 Try.f14 _ [(.sl tEvent)] [(.sl tCard)] (Q9q N) mixed Try.func14 (.mk' Try.func14 rfl (by decide)) rfl (Qu0 N)
noncomputable def Q39 (N : Nat) : Fun [(.sl tEvent)] (Option (ResT [(.sl (.int .u64))])) := fun (x : List ((Int × Int) × UInt8 × Int × UInt8 × List UInt8 × List (Int × Int))) => iter (fun (rec : (List Int
 × Int × Unit) × Unit × Unit × Unit → Option (List Int)) (z : (List Int × Int × Unit) × Unit × Unit × Unit) => bif decide (z.1.2.1 < (↑x.length : Int)) then (at? x z.1.2.1).bind fun (e : (Int × Int) × UInt8 ×
 Int × UInt8 × List UInt8 × List (Int × Int)) => bif e.2.1 != 1 then rec ((z.1.1, IntKind.i64.wrap (z.1.2.1 + 1), ()), (), (), ()) else iter (fun (rec_1 : (List Int × Int × Unit) × Unit × Unit × Unit →
 Option (List Int)) (z_1 : (List Int × Int × Unit) × Unit × Unit × Unit) => bif decide (z_1.1.2.1 < (↑z.1.1.length : Int)) then (at? z.1.1 z_1.1.2.1).bind fun (e : Int) => (at? x z.1.2.1).bind
 fun (e_1 : (Int × Int) × UInt8 × Int × UInt8 × List UInt8 × List (Int × Int)) => bif decide (e < e_1.2.2.1) then (at? z.1.1 z_1.1.2.1).bind fun (e : Int) => bif fitsB (z_1.1.1.length + [e].length) 8
 then rec_1 ((z_1.1.1 ++ [e], IntKind.i64.wrap (z_1.1.2.1 + 1), ()), (), (), ()) else none else rec_1 ((z_1.1.1, IntKind.i64.wrap (z_1.1.2.1 + 1), ()), (), (), ()) else (at? x z.1.2.1).bind fun
 (e : (Int × Int) × UInt8 × Int × UInt8 × List UInt8 × List (Int × Int)) => bif fitsB (z_1.1.1.length + [e.2.2.1].length) 8 then iter (fun (rec_2 : (List Int × Int × Unit) × Unit × Unit × Unit → Option (List
 Int)) (z_2 : (List Int × Int × Unit) × Unit × Unit × Unit) => bif decide (z_2.1.2.1 < (↑z.1.1.length : Int)) then (at? z.1.1 z_2.1.2.1).bind fun (e : Int) => (at? x z.1.2.1).bind fun (e_1 :
 (Int × Int) × UInt8 × Int × UInt8 × List UInt8 × List (Int × Int)) => bif decide (e_1.2.2.1 < e) then (at? z.1.1 z_2.1.2.1).bind fun (e : Int) => bif fitsB (z_2.1.1.length + [e].length) 8 then rec_2
 ((z_2.1.1 ++ [e], IntKind.i64.wrap (z_2.1.2.1 + 1), ()), (), (), ()) else none else rec_2 ((z_2.1.1, IntKind.i64.wrap (z_2.1.2.1 + 1), ()), (), (), ()) else rec ((z_2.1.1, IntKind.i64.wrap
 (z.1.2.1 + 1), ()), (), (), ())) N ((z_1.1.1 ++ [e.2.2.1], 0, ()), (), (), ()) else none) N (([], 0, ()), (), (), ()) else some z.1.1) N (([], 0, ()), (), (), ())
theorem Qi6 (N : Nat) : runF Try.prog [] [] N Try.f48 (.seq .lf (.seq .lf (.seq (.seq .lf (.blk (.loop ⟨[(3, .tip 200003 (.int .u64) none), (4, .d (.int .i64))], [], [0], [], [], []⟩ (.seq .lf (.seq (.blk (.seq .lf (.seq .lf (.seq (.seq .lf (.blk (.loop ⟨[(5, .tip 200005 (.int .u64) none), (6, .d (.int .i64))], [], [0, 3, 4], [], [], []⟩ .lf))) (.seq .lf (.seq (.seq .lf (.blk (.loop ⟨[(5, .tip 200005 (.int .u64) none), (7, .d (.int .i64))], [], [0, 3, 4], [], [], []⟩ .lf))) .lf)))))) .lf))))) .lf))) [(.sl tEvent)] [(.sl (.int .u64))] = Q39 N := by kernel_rfl
noncomputable def Qi9 (N : Nat) : Ent Try.prog := mkFn 48 Try.f48 _ [(.sl tEvent)] [(.sl (.int .u64))] (Q39 N) mixed Try.func48 (.mk' Try.func48 rfl (by decide)) rfl (Qi6 N)
noncomputable def Q3c (N : Nat) : Fun [(.sl tEvent)] (Option (ResT [(.sl tCard)])) := fun (x : List ((Int × Int) × UInt8 × Int × UInt8 × List UInt8 × List (Int × Int))) => Option.bind (Q39
 N x) fun (y : List Int) => iter (fun (rec : (List (Int × List (UInt8 × List UInt8 × List (List UInt8))) × Int × Unit) × Unit × Unit × Unit → Option (List (Int × List (UInt8 × List UInt8 × List (List UInt8))))) (z :
 (List (Int × List (UInt8 × List UInt8 × List (List UInt8))) × Int × Unit) × Unit × Unit × Unit) => bif decide (z.1.2.1 < (↑y.length : Int)) then (at? y z.1.2.1).bind fun (e : Int) => Option.bind
 (Q24 N x e) fun (y : (Int × List (UInt8 × List UInt8 × List (List UInt8))) × Bool) => bif fitsB (z.1.1.length + [y.1].length) 32 then rec ((z.1.1 ++ [y.1], IntKind.i64.wrap (z.1.2.1 +
 1), ()), (), (), ()) else none else some z.1.1) N (([], 0, ()), (), (), ())
theorem Qi0 (N : Nat) : runF Try.prog [Qbo N, Qi9 N] [] N Try.f15 (.seq .lf (.seq .lf (.seq .lf (.seq (.seq .lf (.blk (.loop ⟨[(3, .tip 200003 tCard none), (5, .d (.int .i64))], [], [0, 4], [], [], []⟩ .lf))) .lf)))) [(.sl tEvent)] [(.sl tCard)] = Q3c N := by kernel_rfl
noncomputable def Qi5 (N : Nat) : Ent Try.prog := mkFn 15 Try.f15 _ [(.sl tEvent)] [(.sl tCard)] (Q3c N) mixed Try.func15 (.mk' Try.func15 rfl (by decide)) rfl (Qi0 N)
noncomputable def Q20 (N : Nat) : Fun [] (Option (ResT [.bool])) := Option.bind (Q58 N [((1, 1), 1, 5, 1, [97], []), ((2, 1), 1, 5, 1, [98], [])] 5) fun (y : (Int × List (UInt8 × List UInt8 ×
 List (List UInt8))) × Bool) => bif y.2 then Option.bind (Q1l N y.1 (5, [(1, [98], [[97]])])) fun (y : Bool) => some y else some false
theorem Qgt (N : Nat) : runF Try.prog [Qfk N, Q82 N] [] N Try.f9 .lf [] [.bool] = Q20 N := by kernel_rfl
noncomputable def Qgn (N : Nat) : Ent Try.prog := mkFn 9 Try.f9 _ [] [.bool] (Q20 N) mixed Try.func9 (.mk' Try.func9 rfl (by decide)) rfl (Qgt N)
noncomputable def Q2r (N : Nat) : Fun [(.sl tEvent), (.int .u64)] (Option (ResT [.bool])) := fun (x : List ((Int × Int) × UInt8 × Int × UInt8 × List UInt8 × List (Int × Int))) (x_1 : Int) =>
 Option.bind (Q2h N x 20) fun (y : Bool) => bif !y then Option.bind (Q20 N) fun (y : Bool) => some y else Option.bind (Q58 N x x_1) fun (y : (Int × List (UInt8 × List UInt8 × List
 (List UInt8))) × Bool) => Option.bind (Q24 N x x_1) fun (y_1 : (Int × List (UInt8 × List UInt8 × List (List UInt8))) × Bool) => Option.bind (Q1l N y.1 y_1.1) fun (y_2 : Bool) => bif
 y_2 then bif y.2 == y_1.2 then Option.bind (Q9q N x) fun (y : List (Int × List (UInt8 × List UInt8 × List (List UInt8)))) => Option.bind (Q3c N x) fun (y_3 : List (Int × List (UInt8 × List
 UInt8 × List (List UInt8)))) => Option.bind (Q47 N y y_3) fun (y : Bool) => bif y then Option.bind (Q20 N) fun (y : Bool) => some y else some false else some false else some false
theorem Qe5 (N : Nat) : runF Try.prog [Qfk N, Qbo N, Q82 N, Qig N, Qui N, Qi5 N, Qjx N, Qgn N] [] N Try.f3 .lf [(.sl tEvent), (.int .u64)] [.bool] = Q2r N := by kernel_rfl
theorem D_epitaphlaw19_ViewShows (N : Nat) : Qgh Try.prog 3 [.bool] [(.sl tEvent), (.int .u64)] (Q2r N) [] := Qe5 N ▸ Qnv mixed Try.func3 rfl
end Go.Proofs.Xg
set_option linter.unusedVariables false
set_option linter.unusedSimpArgs false
namespace Go.Proofs.Xg
open Go Go.Xl Go.Ab Go.Proofs Go.Sort
section
variable {α : Type} [DecidableEq α]
def Q5m (p : α) : List α → List α
 | [] => []
 | y :: r => if y = p then Q5m p r else y :: Q5m y r
def comp : List α → List α
 | [] => []
 | x :: r => x :: Q5m x r
theorem Qlj (q y : α) : ∀ (p : α) (l : List α), (p :: l).getLast? = some q → Q5m p (l ++ [y]) = if y = q then Q5m p l else Q5m p l ++ [y]
 | p, [], h => by
  simp at h
  subst h
  simp [Q5m]
 | p, x :: r, h => by
  rw [List.getLast?_cons_cons] at h
  simp only [List.cons_append, Q5m]
  have ih := Qlj q y x r h
  by_cases hx : x = p
  ·subst hx
   rw [if_pos rfl, if_pos rfl, ih]
  ·rw [if_neg hx, if_neg hx, ih]
   by_cases hy : y = q
   ·rw [if_pos hy, if_pos hy]
   ·rw [if_neg hy, if_neg hy]; rfl
theorem Q9e {l : List α} {m : Nat} (hm : 0 < m) {a b : α} (ha : l[m - 1]? = some a) (hb : l[m]? = some b) : comp (l.take (m + 1)) = if b = a then comp (l.take m) else comp (l.take m) ++ [b] := by
 have hlt : m < l.length := (List.getElem?_eq_some_iff.1 hb).1
 have e : l.take (m + 1) = l.take m ++ [b] := by
  rw [List.take_add_one, hb]; rfl
 rw [e]
 cases hl : l.take m with
 | nil => simp at hl; rcases hl with h | h <;> (subst h; simp at *)
 | cons x r =>
  have hlast : (x :: r).getLast? = some a := by
   rw [← hl, List.getLast?_eq_getElem?, List.length_take, List.getElem?_take, Nat.min_eq_left (by omega), if_pos (by omega)]; exact ha
  simp only [List.cons_append, comp]
  rw [Qlj a b x r hlast]
  by_cases h : b = a
  ·rw [if_pos h, if_pos h]
  ·rw [if_neg h, if_neg h]
theorem Qgo (l : List α) : comp (l.take 1) = l.take 1 := by
 cases l with
 | nil => rfl
 | cons x r => simp [comp, Q5m]
end
end Go.Proofs.Xg
set_option linter.unusedVariables false
set_option linter.unusedSimpArgs false
namespace Go.Proofs.Xg
open Go Go.Xl Go.Ab Go.Proofs Go.Sort
theorem getElem?_lt {α : Type} {l : List α} {i : Nat} (h : i < l.length) : l[i]? = some l[i] := List.getElem?_eq_getElem h
theorem Q4a (n : Nat) : ((n : Int)).toNat = n := rfl
end Go.Proofs.Xg
set_option linter.unusedVariables false
set_option linter.unusedSimpArgs false
set_option linter.unusedSectionVars false
namespace Go.Proofs.Xg
open Go Go.Xl Go.Ab Go.Proofs Go.Sort
theorem Q10w {σ R : Type} {f : (σ → Option R) → σ → Option R} (st : Nat → σ) (G : Nat → Option R) (a n : Nat) (han : a ≤ n)
  (hs : ∀ (rec : σ → Option R) (k : Nat), a ≤ k → k < n → rec (st (k + 1)) = G (k + 1) → f rec (st k) = G k) (he : ∀ rec, f rec (st n) = G n) (N : Nat) (hN : n < N) : iter f N (st a) = G a := by
 have h := Q5f (f := f) (Q := fun _ => True)
 clear h
 have key : ∀ (m k : Nat), a ≤ k → k ≤ n → n - k < m → iter f m (st k) = G k := by
  intro m
  induction m with
  | zero => intro k _ _ h; omega
  | succ m ih =>
   intro k h1 h2 h3
   simp only [iter]
   by_cases hk : k < n
   ·exact hs _ k h1 hk (ih (k + 1) (by omega) (by omega) (by omega))
   ·have : k = n := by omega
    subst this
    exact he _
 exact key N a (Nat.le_refl _) han (by omega)
theorem Q7x {σ R : Type} {f : (σ → Option R) → σ → Option R} (st : Nat → σ) (r : Option R) (a n : Nat) (han : a ≤ n)
  (hs : ∀ (rec : σ → Option R) (k : Nat), a ≤ k → k < n → f rec (st k) = rec (st (k + 1))) (he : ∀ rec, f rec (st n) = r) (N : Nat) (hN : n < N) : iter f N (st a) = r :=
 Q10w st (fun _ => r) a n han (fun rec k h1 h2 h => (hs rec k h1 h2).trans h) he N hN
theorem Q23 {α : Type} {l : List α} {k : Nat} (h : k < l.length) : l.take (k + 1) = l.take k ++ [l[k]] := by
 rw [List.take_add_one, List.getElem?_eq_getElem h]; rfl
structure Tot {α : Type} (lt : α → α → Bool) : Prop where
 asymm : ∀ x y, lt x y = true → lt y x = false
 trans : ∀ {x y z}, lt x y = true → lt y z = true → lt x z = true
 total : ∀ x y, lt x y = false → lt y x = false → x = y
section
variable {α : Type} {lt : α → α → Bool}
def putG (lt : α → α → Bool) (d : α) (l : List α) : List α := l.filter (fun x => lt x d) ++ [d] ++ l.filter (fun x => lt d x)
theorem Qux (h : Tot lt) (d : α) (l : List α) : (putG lt d l).length ≤ l.length + 1 := by
 unfold putG
 have : ∀ l : List α, (l.filter (fun x => lt x d)).length + (l.filter (fun x => lt d x)).length ≤ l.length := by
  intro l
  induction l with
  | nil => simp
  | cons x r ih =>
   simp only [List.filter_cons]
   cases h1 : lt x d with
   | true => rw [h.asymm _ _ h1]; simp; omega
   | false => cases lt d x <;> simp <;> omega
 have := this l
 simp; omega
theorem Q10q (h : Tot lt) (d x : α) (l : List α) : x ∈ putG lt d l ↔ x = d ∨ x ∈ l := by
 unfold putG
 simp only [List.mem_append, List.mem_filter, List.mem_singleton]
 constructor
 ·rintro ((⟨h, _⟩ | h) | ⟨h, _⟩)
  ·exact .inr h
  ·exact .inl h
  ·exact .inr h
 ·rintro (h0 | h0)
  ·exact .inl (.inr h0)
  ·cases h1 : lt x d with
   | true => exact .inl (.inl ⟨h0, rfl⟩)
   | false =>
    cases h2 : lt d x with
    | true => exact .inr ⟨h0, rfl⟩
    | false => exact .inl (.inr (h.total _ _ h1 h2))
theorem Qzz (h : Tot lt) (d : α) (l : List α) (hl : SAsc lt l) : SAsc lt (putG lt d l) := by
 unfold putG SAsc
 rw [List.append_assoc, List.pairwise_append, List.singleton_append, List.pairwise_cons]
 refine ⟨List.Pairwise.filter _ hl, ⟨fun y hy => (List.mem_filter.1 hy).2, List.Pairwise.filter _ hl⟩, ?_⟩
 intro a ha b hb
 have h1 := (List.mem_filter.1 ha).2
 rcases List.mem_cons.1 hb with rfl | hb
 ·exact h1
 ·exact h.trans h1 (List.mem_filter.1 hb).2
def putsG (lt : α → α → Bool) (l : List α) : List α := l.foldl (fun q d => putG lt d q) []
theorem Qcd (h : Tot lt) : ∀ (l q : List α), SAsc lt q → SAsc lt (l.foldl (fun q d => putG lt d q) q) ∧ (∀ x, x ∈ l.foldl (fun q d => putG lt d q) q ↔ x ∈ q ∨ x ∈ l) ∧ (l.foldl (fun q d => putG lt d q) q).length ≤ q.length + l.length
 | [], q, hq => ⟨hq, by simp, by simp⟩
 | d :: r, q, hq => by
  obtain ⟨h1, h2, h3⟩ := Qcd h r (putG lt d q) (Qzz h d q hq)
  refine ⟨h1, fun x => ?_, ?_⟩
  ·rw [List.foldl_cons, h2, Q10q h]; simp; constructor <;> rintro (h | h) <;> grind
  ·rw [List.foldl_cons]
   have := Qux h d q
   simp; omega
theorem Qxm (h : Tot lt) (l : List α) : SAsc lt (putsG lt l) := (Qcd h l [] (by simp [SAsc])).1
theorem Qzm (h : Tot lt) (l : List α) (x : α) : x ∈ putsG lt l ↔ x ∈ l := by
 have := (Qcd h l [] (by simp [SAsc])).2.1 x
 simpa [putsG] using this
theorem Qcv (h : Tot lt) (l : List α) : (putsG lt l).length ≤ l.length := by
 have := (Qcd h l [] (by simp [SAsc])).2.2
 simpa [putsG] using this
variable [DecidableEq α]
theorem Qfn {p x : α} : ∀ {l : List α}, (x = p ∨ x ∈ Q5m p l) ↔ (x = p ∨ x ∈ l)
 | [] => by simp [Q5m]
 | y :: r => by
  simp only [Q5m]
  by_cases hy : y = p
  ·subst hy
   rw [if_pos rfl, Qfn (l := r)]; simp
  ·rw [if_neg hy]
   have := Qfn (p := y) (x := x) (l := r)
   simp only [List.mem_cons]
   rw [this]
theorem Qfg (h : Tot lt) : ∀ (p : α) (l : List α), (p :: l).Pairwise (fun a b => lt b a = false) → SAsc lt (p :: Q5m p l)
 | p, [], h0 => by simp [Q5m, SAsc]
 | p, y :: r, h0 => by
  have h' := h0
  simp only [List.pairwise_cons, List.mem_cons] at h'
  simp only [Q5m]
  by_cases hy : y = p
  ·subst hy
   rw [if_pos rfl]
   exact Qfg h y r (by simp only [List.pairwise_cons]; exact ⟨fun a ha => h'.1 a (.inr ha), h'.2.2⟩)
  ·rw [if_neg hy]
   have ih := Qfg h y r (by simp only [List.pairwise_cons]; exact h'.2)
   have hpy : lt p y = true := by
    cases hh : lt p y with
    | true => rfl
    | false => exact absurd (h.total _ _ (h'.1 y (.inl rfl)) hh) hy
   unfold SAsc at *
   rw [List.pairwise_cons]
   refine ⟨fun a ha => ?_, ih⟩
   rcases List.mem_cons.1 ha with rfl | ha
   ·exact hpy
   ·exact h.trans hpy ((List.pairwise_cons.1 ih).1 a ha)
theorem Qpn (h : Tot lt) {l s : List α} (hp : s.Perm l) (hs : s.Pairwise (fun a b => lt b a = false)) : comp s = putsG lt l := by
 have hm : ∀ x, x ∈ comp s ↔ x ∈ l := by
  intro x
  rw [← hp.mem_iff]
  cases s with
  | nil => simp [comp]
  | cons p r => simp only [comp, List.mem_cons]; exact Qfn
 refine SAsc.ext h.asymm ?_ (Qxm h l) fun x => by rw [hm, Qzm h]
 cases s with
 | nil => simp [comp, SAsc]
 | cons p r => exact Qfg h p r hs
end
theorem Qoa : Tot (fun x y : Int => decide (x < y)) := ⟨fun x y h => by simp at *; omega, fun h h' => by simp at *; omega, fun x y h h' => by simp at *; omega⟩
end Go.Proofs.Xg
