/-
  The trees of the functions that a law reaches, each as the machine makes it.
-/
import Derived.Test.YtnglgoloeabbeaaMZ
namespace Go.Sx
open Go

/-- laws.big -/
def w_big : Nat := 8
def t_w_big : T :=
  .ret [(lt (n 1048576) (ln (v 0)))]

/-- spec.l1New -/
def s_l1New : Nat := 47
def t_s_l1New : T :=
  .loop 1 [(n 0), (ad (n 10101) (ln (v 0)))] <|
   .need (ro (nt (lt (v 1) (ln (v 0)))) (lt (v 1) (ln (v 0)))) <|
   .ite (it (lt (v 1) (ln (v 0))) (lt (v 1) (n 4000)) ff)
   (.need (le (n 0) (v 1)) <|
    .need (lt (v 1) (ln (v 0))) <|
    .again 0 [(ad (v 1) (n 1)), (ap (.band .i64) [(ad (ad (mu (v 2) (n 131)) (cv (ce 0 (v 0) (v 1)))) (n 7)), (n 1073741823)])])
   (.ret [(v 0), (n 0), (v 2)])

/-- spec.l1Byte -/
def s_l1Byte : Nat := 110
def t_s_l1Byte : T :=
  .need (le (n 0) (n 33)) <|
  .need (le (n 0) (n 45)) <|
  .ite (lt (v 1) (ln (v 0)))
  (.need (le (n 0) (v 1)) <|
   .need (lt (v 1) (ln (v 0))) <|
   .ret [(ap (.band .i64) [(ad (ap (.band .i64) [(ap (.bxor .i64) [(ap (.shr .i64) [(ad (mu (v 2) (n 6364136223846793005)) (n 1442695040888963407)), (n 33)]), (ap (.shr .i64) [(ad (mu (v 2) (n 6364136223846793005)) (n 1442695040888963407)), (n 45)])]), (n 255)]) (cv (ce 0 (v 0) (v 1)))), (n 255)]), (v 0), (ad (v 1) (n 1)), (ad (mu (v 2) (n 6364136223846793005)) (n 1442695040888963407))])
  (.ret [(ap (.band .i64) [(ap (.bxor .i64) [(ap (.shr .i64) [(ad (mu (v 2) (n 6364136223846793005)) (n 1442695040888963407)), (n 33)]), (ap (.shr .i64) [(ad (mu (v 2) (n 6364136223846793005)) (n 1442695040888963407)), (n 45)])]), (n 255)]), (v 0), (v 1), (ad (mu (v 2) (n 6364136223846793005)) (n 1442695040888963407))])

/-- spec.l1Below -/
def s_l1Below : Nat := 55
def t_s_l1Below : T :=
  .ite (le (v 3) (n 0))
  (.ret [(n 0), (v 0), (v 1), (v 2)])
  (.ite (le (v 3) (n 256))
   (ask s_l1Byte [(v 0), (v 1), (v 2)] <|
    .need (nt (eq (v 3) (n 0))) <|
    .ret [(rm (fn s_l1Byte 0 [(v 0), (v 1), (v 2)]) (v 3)), (v 0), (fn s_l1Byte 2 [(v 0), (v 1), (v 2)]), (fn s_l1Byte 3 [(v 0), (v 1), (v 2)])])
   (ask s_l1Byte [(v 0), (v 1), (v 2)] <|
    ask s_l1Byte [(v 0), (fn s_l1Byte 2 [(v 0), (v 1), (v 2)]), (fn s_l1Byte 3 [(v 0), (v 1), (v 2)])] <|
    ask s_l1Byte [(v 0), (fn s_l1Byte 2 [(v 0), (fn s_l1Byte 2 [(v 0), (v 1), (v 2)]), (fn s_l1Byte 3 [(v 0), (v 1), (v 2)])]), (fn s_l1Byte 3 [(v 0), (fn s_l1Byte 2 [(v 0), (v 1), (v 2)]), (fn s_l1Byte 3 [(v 0), (v 1), (v 2)])])] <|
    ask s_l1Byte [(v 0), (fn s_l1Byte 2 [(v 0), (fn s_l1Byte 2 [(v 0), (fn s_l1Byte 2 [(v 0), (v 1), (v 2)]), (fn s_l1Byte 3 [(v 0), (v 1), (v 2)])]), (fn s_l1Byte 3 [(v 0), (fn s_l1Byte 2 [(v 0), (v 1), (v 2)]), (fn s_l1Byte 3 [(v 0), (v 1), (v 2)])])]), (fn s_l1Byte 3 [(v 0), (fn s_l1Byte 2 [(v 0), (fn s_l1Byte 2 [(v 0), (v 1), (v 2)]), (fn s_l1Byte 3 [(v 0), (v 1), (v 2)])]), (fn s_l1Byte 3 [(v 0), (fn s_l1Byte 2 [(v 0), (v 1), (v 2)]), (fn s_l1Byte 3 [(v 0), (v 1), (v 2)])])])] <|
    .need (nt (eq (v 3) (n 0))) <|
    .ret [(rm (ad (ad (ad (mu (fn s_l1Byte 0 [(v 0), (v 1), (v 2)]) (n 16777216)) (mu (fn s_l1Byte 0 [(v 0), (fn s_l1Byte 2 [(v 0), (v 1), (v 2)]), (fn s_l1Byte 3 [(v 0), (v 1), (v 2)])]) (n 65536))) (mu (fn s_l1Byte 0 [(v 0), (fn s_l1Byte 2 [(v 0), (fn s_l1Byte 2 [(v 0), (v 1), (v 2)]), (fn s_l1Byte 3 [(v 0), (v 1), (v 2)])]), (fn s_l1Byte 3 [(v 0), (fn s_l1Byte 2 [(v 0), (v 1), (v 2)]), (fn s_l1Byte 3 [(v 0), (v 1), (v 2)])])]) (n 256))) (fn s_l1Byte 0 [(v 0), (fn s_l1Byte 2 [(v 0), (fn s_l1Byte 2 [(v 0), (fn s_l1Byte 2 [(v 0), (v 1), (v 2)]), (fn s_l1Byte 3 [(v 0), (v 1), (v 2)])]), (fn s_l1Byte 3 [(v 0), (fn s_l1Byte 2 [(v 0), (v 1), (v 2)]), (fn s_l1Byte 3 [(v 0), (v 1), (v 2)])])]), (fn s_l1Byte 3 [(v 0), (fn s_l1Byte 2 [(v 0), (fn s_l1Byte 2 [(v 0), (v 1), (v 2)]), (fn s_l1Byte 3 [(v 0), (v 1), (v 2)])]), (fn s_l1Byte 3 [(v 0), (fn s_l1Byte 2 [(v 0), (v 1), (v 2)]), (fn s_l1Byte 3 [(v 0), (v 1), (v 2)])])])])) (v 3)), (v 0), (fn s_l1Byte 2 [(v 0), (fn s_l1Byte 2 [(v 0), (fn s_l1Byte 2 [(v 0), (fn s_l1Byte 2 [(v 0), (v 1), (v 2)]), (fn s_l1Byte 3 [(v 0), (v 1), (v 2)])]), (fn s_l1Byte 3 [(v 0), (fn s_l1Byte 2 [(v 0), (v 1), (v 2)]), (fn s_l1Byte 3 [(v 0), (v 1), (v 2)])])]), (fn s_l1Byte 3 [(v 0), (fn s_l1Byte 2 [(v 0), (fn s_l1Byte 2 [(v 0), (v 1), (v 2)]), (fn s_l1Byte 3 [(v 0), (v 1), (v 2)])]), (fn s_l1Byte 3 [(v 0), (fn s_l1Byte 2 [(v 0), (v 1), (v 2)]), (fn s_l1Byte 3 [(v 0), (v 1), (v 2)])])])]), (fn s_l1Byte 3 [(v 0), (fn s_l1Byte 2 [(v 0), (fn s_l1Byte 2 [(v 0), (fn s_l1Byte 2 [(v 0), (v 1), (v 2)]), (fn s_l1Byte 3 [(v 0), (v 1), (v 2)])]), (fn s_l1Byte 3 [(v 0), (fn s_l1Byte 2 [(v 0), (v 1), (v 2)]), (fn s_l1Byte 3 [(v 0), (v 1), (v 2)])])]), (fn s_l1Byte 3 [(v 0), (fn s_l1Byte 2 [(v 0), (fn s_l1Byte 2 [(v 0), (v 1), (v 2)]), (fn s_l1Byte 3 [(v 0), (v 1), (v 2)])]), (fn s_l1Byte 3 [(v 0), (fn s_l1Byte 2 [(v 0), (v 1), (v 2)]), (fn s_l1Byte 3 [(v 0), (v 1), (v 2)])])])])]))

/-- spec.l1In -/
def s_l1In : Nat := 65
def t_s_l1In : T :=
  .need (ro (nt (le (v 1) (v 0))) (le (v 1) (v 0))) <|
  .ret [(it (le (v 1) (v 0)) (le (v 0) (v 2)) ff)]

/-- spec.OpSize -/
def s_OpSize : Nat := 115
def t_s_OpSize : T :=
  ask s_l1In [(v 1), (n 1), (n 6)] <|
  .ask (nt (nt (fn s_l1In 0 [(v 1), (n 1), (n 6)]))) s_l1In [(v 2), (n 1), (n 6)] <|
  .need (ro (nt (fn s_l1In 0 [(v 1), (n 1), (n 6)])) (nt (nt (fn s_l1In 0 [(v 1), (n 1), (n 6)])))) <|
  .ite (it (nt (fn s_l1In 0 [(v 1), (n 1), (n 6)])) tt (nt (fn s_l1In 0 [(v 2), (n 1), (n 6)])))
  (.ret [(n 0)])
  (.ite (eq (v 0) (n 1))
   (.ite (eq (v 0) (n 1))
    (.ret [(mu (v 1) (v 2))])
    (.ite (eq (v 0) (n 2))
     (.ret [(v 1)])
     (.ite (eq (v 0) (n 4))
      (.ret [(n 1)])
      (.ret [(n 0)]))))
   (.ite (eq (v 0) (n 5))
    (.ret [(mu (v 1) (v 2))])
    (.ite (eq (v 0) (n 2))
     (.ret [(v 1)])
     (.ite (eq (v 0) (n 4))
      (.ret [(n 1)])
      (.ret [(n 0)])))))

/-- spec.l1PickInt -/
def s_l1PickInt : Nat := 56
def t_s_l1PickInt : T :=
  ask s_l1Below [(v 0), (v 1), (v 2), (ln (v 3))] <|
  .need (le (n 0) (fn s_l1Below 0 [(v 0), (v 1), (v 2), (ln (v 3))])) <|
  .need (lt (fn s_l1Below 0 [(v 0), (v 1), (v 2), (ln (v 3))]) (ln (v 3))) <|
  .ret [(ce 0 (v 3) (fn s_l1Below 0 [(v 0), (v 1), (v 2), (ln (v 3))])), (v 0), (fn s_l1Below 2 [(v 0), (v 1), (v 2), (ln (v 3))]), (fn s_l1Below 3 [(v 0), (v 1), (v 2), (ln (v 3))])]

/-- spec.l2Fix -/
def s_l2Fix : Nat := 131
def t_s_l2Fix : T :=
  ask s_l1Below [(v 0), (v 1), (v 2), (n 12)] <|
  .ite (eq (fn s_l1Below 0 [(v 0), (v 1), (v 2), (n 12)]) (n 0))
  (ask s_l1PickInt [(v 0), (fn s_l1Below 2 [(v 0), (v 1), (v 2), (n 12)]), (fn s_l1Below 3 [(v 0), (v 1), (v 2), (n 12)]), (ap (.mk 1) [(n 2147483647), (n (-2147483647)), (n 2147483646), (n 1), (n (-1)), (n 0)])] <|
   .ret [(fn s_l1PickInt 0 [(v 0), (fn s_l1Below 2 [(v 0), (v 1), (v 2), (n 12)]), (fn s_l1Below 3 [(v 0), (v 1), (v 2), (n 12)]), (ap (.mk 1) [(n 2147483647), (n (-2147483647)), (n 2147483646), (n 1), (n (-1)), (n 0)])]), (v 0), (fn s_l1PickInt 2 [(v 0), (fn s_l1Below 2 [(v 0), (v 1), (v 2), (n 12)]), (fn s_l1Below 3 [(v 0), (v 1), (v 2), (n 12)]), (ap (.mk 1) [(n 2147483647), (n (-2147483647)), (n 2147483646), (n 1), (n (-1)), (n 0)])]), (fn s_l1PickInt 3 [(v 0), (fn s_l1Below 2 [(v 0), (v 1), (v 2), (n 12)]), (fn s_l1Below 3 [(v 0), (v 1), (v 2), (n 12)]), (ap (.mk 1) [(n 2147483647), (n (-2147483647)), (n 2147483646), (n 1), (n (-1)), (n 0)])])])
  (.ite (eq (fn s_l1Below 0 [(v 0), (v 1), (v 2), (n 12)]) (n 1))
   (ask s_l1Below [(v 0), (fn s_l1Below 2 [(v 0), (v 1), (v 2), (n 12)]), (fn s_l1Below 3 [(v 0), (v 1), (v 2), (n 12)]), (n 4000)] <|
    .ret [(mu (sb (fn s_l1Below 0 [(v 0), (fn s_l1Below 2 [(v 0), (v 1), (v 2), (n 12)]), (fn s_l1Below 3 [(v 0), (v 1), (v 2), (n 12)]), (n 4000)]) (n 2000)) (n 997)), (v 0), (fn s_l1Below 2 [(v 0), (fn s_l1Below 2 [(v 0), (v 1), (v 2), (n 12)]), (fn s_l1Below 3 [(v 0), (v 1), (v 2), (n 12)]), (n 4000)]), (fn s_l1Below 3 [(v 0), (fn s_l1Below 2 [(v 0), (v 1), (v 2), (n 12)]), (fn s_l1Below 3 [(v 0), (v 1), (v 2), (n 12)]), (n 4000)])])
   (.ite (eq (fn s_l1Below 0 [(v 0), (v 1), (v 2), (n 12)]) (n 2))
    (ask s_l1Below [(v 0), (fn s_l1Below 2 [(v 0), (v 1), (v 2), (n 12)]), (fn s_l1Below 3 [(v 0), (v 1), (v 2), (n 12)]), (n 9)] <|
     .ret [(sb (fn s_l1Below 0 [(v 0), (fn s_l1Below 2 [(v 0), (v 1), (v 2), (n 12)]), (fn s_l1Below 3 [(v 0), (v 1), (v 2), (n 12)]), (n 9)]) (n 4)), (v 0), (fn s_l1Below 2 [(v 0), (fn s_l1Below 2 [(v 0), (v 1), (v 2), (n 12)]), (fn s_l1Below 3 [(v 0), (v 1), (v 2), (n 12)]), (n 9)]), (fn s_l1Below 3 [(v 0), (fn s_l1Below 2 [(v 0), (v 1), (v 2), (n 12)]), (fn s_l1Below 3 [(v 0), (v 1), (v 2), (n 12)]), (n 9)])])
    (ask s_l1Below [(v 0), (fn s_l1Below 2 [(v 0), (v 1), (v 2), (n 12)]), (fn s_l1Below 3 [(v 0), (v 1), (v 2), (n 12)]), (n 17)] <|
     ask s_l1PickInt [(v 0), (fn s_l1Below 2 [(v 0), (fn s_l1Below 2 [(v 0), (v 1), (v 2), (n 12)]), (fn s_l1Below 3 [(v 0), (v 1), (v 2), (n 12)]), (n 17)]), (fn s_l1Below 3 [(v 0), (fn s_l1Below 2 [(v 0), (v 1), (v 2), (n 12)]), (fn s_l1Below 3 [(v 0), (v 1), (v 2), (n 12)]), (n 17)]), (ap (.mk 1) [(n 1), (n 1), (n 2), (n 4), (n 3)])] <|
     .need (nt (eq (fn s_l1PickInt 0 [(v 0), (fn s_l1Below 2 [(v 0), (fn s_l1Below 2 [(v 0), (v 1), (v 2), (n 12)]), (fn s_l1Below 3 [(v 0), (v 1), (v 2), (n 12)]), (n 17)]), (fn s_l1Below 3 [(v 0), (fn s_l1Below 2 [(v 0), (v 1), (v 2), (n 12)]), (fn s_l1Below 3 [(v 0), (v 1), (v 2), (n 12)]), (n 17)]), (ap (.mk 1) [(n 1), (n 1), (n 2), (n 4), (n 3)])]) (n 0))) <|
     .ret [(qu (mu (sb (fn s_l1Below 0 [(v 0), (fn s_l1Below 2 [(v 0), (v 1), (v 2), (n 12)]), (fn s_l1Below 3 [(v 0), (v 1), (v 2), (n 12)]), (n 17)]) (n 8)) (n 65536)) (fn s_l1PickInt 0 [(v 0), (fn s_l1Below 2 [(v 0), (fn s_l1Below 2 [(v 0), (v 1), (v 2), (n 12)]), (fn s_l1Below 3 [(v 0), (v 1), (v 2), (n 12)]), (n 17)]), (fn s_l1Below 3 [(v 0), (fn s_l1Below 2 [(v 0), (v 1), (v 2), (n 12)]), (fn s_l1Below 3 [(v 0), (v 1), (v 2), (n 12)]), (n 17)]), (ap (.mk 1) [(n 1), (n 1), (n 2), (n 4), (n 3)])])), (v 0), (fn s_l1PickInt 2 [(v 0), (fn s_l1Below 2 [(v 0), (fn s_l1Below 2 [(v 0), (v 1), (v 2), (n 12)]), (fn s_l1Below 3 [(v 0), (v 1), (v 2), (n 12)]), (n 17)]), (fn s_l1Below 3 [(v 0), (fn s_l1Below 2 [(v 0), (v 1), (v 2), (n 12)]), (fn s_l1Below 3 [(v 0), (v 1), (v 2), (n 12)]), (n 17)]), (ap (.mk 1) [(n 1), (n 1), (n 2), (n 4), (n 3)])]), (fn s_l1PickInt 3 [(v 0), (fn s_l1Below 2 [(v 0), (fn s_l1Below 2 [(v 0), (v 1), (v 2), (n 12)]), (fn s_l1Below 3 [(v 0), (v 1), (v 2), (n 12)]), (n 17)]), (fn s_l1Below 3 [(v 0), (fn s_l1Below 2 [(v 0), (v 1), (v 2), (n 12)]), (fn s_l1Below 3 [(v 0), (v 1), (v 2), (n 12)]), (n 17)]), (ap (.mk 1) [(n 1), (n 1), (n 2), (n 4), (n 3)])])])))

/-- spec.l3Vec -/
def s_l3Vec : Nat := 86
def t_s_l3Vec : T :=
  .loop 4 [(n 0), (v 1), (v 2), .nil] <|
   .ite (lt (v 4) (v 3))
   (ask s_l2Fix [(v 0), (v 5), (v 6)] <|
    .need (le (ln (ct (v 7) (ap (.mk 1) [(fn s_l2Fix 0 [(v 0), (v 5), (v 6)])]))) (n 274877906944)) <|
    .again 0 [(ad (v 4) (n 1)), (fn s_l2Fix 2 [(v 0), (v 5), (v 6)]), (fn s_l2Fix 3 [(v 0), (v 5), (v 6)]), (ct (v 7) (ap (.mk 1) [(fn s_l2Fix 0 [(v 0), (v 5), (v 6)])]))])
   (.ret [(v 7), (v 0), (v 5), (v 6)])

/-- spec.l5Op -/
def s_l5Op : Nat := 105
def t_s_l5Op : T :=
  ask s_l1Below [(v 0), (v 1), (v 2), (n 5)] <|
  .ite (eq (ad (n 1) (fn s_l1Below 0 [(v 0), (v 1), (v 2), (n 5)])) (n 1))
  (ask s_l1Below [(v 0), (fn s_l1Below 2 [(v 0), (v 1), (v 2), (n 5)]), (fn s_l1Below 3 [(v 0), (v 1), (v 2), (n 5)]), (n 3)] <|
   ask s_OpSize [(ad (n 1) (fn s_l1Below 0 [(v 0), (v 1), (v 2), (n 5)])), (v 3), (ad (n 1) (fn s_l1Below 0 [(v 0), (fn s_l1Below 2 [(v 0), (v 1), (v 2), (n 5)]), (fn s_l1Below 3 [(v 0), (v 1), (v 2), (n 5)]), (n 3)])), .nil] <|
   ask s_l3Vec [(v 0), (fn s_l1Below 2 [(v 0), (fn s_l1Below 2 [(v 0), (v 1), (v 2), (n 5)]), (fn s_l1Below 3 [(v 0), (v 1), (v 2), (n 5)]), (n 3)]), (fn s_l1Below 3 [(v 0), (fn s_l1Below 2 [(v 0), (v 1), (v 2), (n 5)]), (fn s_l1Below 3 [(v 0), (v 1), (v 2), (n 5)]), (n 3)]), (fn s_OpSize 0 [(ad (n 1) (fn s_l1Below 0 [(v 0), (v 1), (v 2), (n 5)])), (v 3), (ad (n 1) (fn s_l1Below 0 [(v 0), (fn s_l1Below 2 [(v 0), (v 1), (v 2), (n 5)]), (fn s_l1Below 3 [(v 0), (v 1), (v 2), (n 5)]), (n 3)])), .nil])] <|
   .ret [(ad (n 1) (fn s_l1Below 0 [(v 0), (v 1), (v 2), (n 5)])), (v 3), (ad (n 1) (fn s_l1Below 0 [(v 0), (fn s_l1Below 2 [(v 0), (v 1), (v 2), (n 5)]), (fn s_l1Below 3 [(v 0), (v 1), (v 2), (n 5)]), (n 3)])), (fn s_l3Vec 0 [(v 0), (fn s_l1Below 2 [(v 0), (fn s_l1Below 2 [(v 0), (v 1), (v 2), (n 5)]), (fn s_l1Below 3 [(v 0), (v 1), (v 2), (n 5)]), (n 3)]), (fn s_l1Below 3 [(v 0), (fn s_l1Below 2 [(v 0), (v 1), (v 2), (n 5)]), (fn s_l1Below 3 [(v 0), (v 1), (v 2), (n 5)]), (n 3)]), (fn s_OpSize 0 [(ad (n 1) (fn s_l1Below 0 [(v 0), (v 1), (v 2), (n 5)])), (v 3), (ad (n 1) (fn s_l1Below 0 [(v 0), (fn s_l1Below 2 [(v 0), (v 1), (v 2), (n 5)]), (fn s_l1Below 3 [(v 0), (v 1), (v 2), (n 5)]), (n 3)])), .nil])]), (v 0), (fn s_l3Vec 2 [(v 0), (fn s_l1Below 2 [(v 0), (fn s_l1Below 2 [(v 0), (v 1), (v 2), (n 5)]), (fn s_l1Below 3 [(v 0), (v 1), (v 2), (n 5)]), (n 3)]), (fn s_l1Below 3 [(v 0), (fn s_l1Below 2 [(v 0), (v 1), (v 2), (n 5)]), (fn s_l1Below 3 [(v 0), (v 1), (v 2), (n 5)]), (n 3)]), (fn s_OpSize 0 [(ad (n 1) (fn s_l1Below 0 [(v 0), (v 1), (v 2), (n 5)])), (v 3), (ad (n 1) (fn s_l1Below 0 [(v 0), (fn s_l1Below 2 [(v 0), (v 1), (v 2), (n 5)]), (fn s_l1Below 3 [(v 0), (v 1), (v 2), (n 5)]), (n 3)])), .nil])]), (fn s_l3Vec 3 [(v 0), (fn s_l1Below 2 [(v 0), (fn s_l1Below 2 [(v 0), (v 1), (v 2), (n 5)]), (fn s_l1Below 3 [(v 0), (v 1), (v 2), (n 5)]), (n 3)]), (fn s_l1Below 3 [(v 0), (fn s_l1Below 2 [(v 0), (v 1), (v 2), (n 5)]), (fn s_l1Below 3 [(v 0), (v 1), (v 2), (n 5)]), (n 3)]), (fn s_OpSize 0 [(ad (n 1) (fn s_l1Below 0 [(v 0), (v 1), (v 2), (n 5)])), (v 3), (ad (n 1) (fn s_l1Below 0 [(v 0), (fn s_l1Below 2 [(v 0), (v 1), (v 2), (n 5)]), (fn s_l1Below 3 [(v 0), (v 1), (v 2), (n 5)]), (n 3)])), .nil])])])
  (ask s_OpSize [(ad (n 1) (fn s_l1Below 0 [(v 0), (v 1), (v 2), (n 5)])), (v 3), (v 3), .nil] <|
   ask s_l3Vec [(v 0), (fn s_l1Below 2 [(v 0), (v 1), (v 2), (n 5)]), (fn s_l1Below 3 [(v 0), (v 1), (v 2), (n 5)]), (fn s_OpSize 0 [(ad (n 1) (fn s_l1Below 0 [(v 0), (v 1), (v 2), (n 5)])), (v 3), (v 3), .nil])] <|
   .ret [(ad (n 1) (fn s_l1Below 0 [(v 0), (v 1), (v 2), (n 5)])), (v 3), (v 3), (fn s_l3Vec 0 [(v 0), (fn s_l1Below 2 [(v 0), (v 1), (v 2), (n 5)]), (fn s_l1Below 3 [(v 0), (v 1), (v 2), (n 5)]), (fn s_OpSize 0 [(ad (n 1) (fn s_l1Below 0 [(v 0), (v 1), (v 2), (n 5)])), (v 3), (v 3), .nil])]), (v 0), (fn s_l3Vec 2 [(v 0), (fn s_l1Below 2 [(v 0), (v 1), (v 2), (n 5)]), (fn s_l1Below 3 [(v 0), (v 1), (v 2), (n 5)]), (fn s_OpSize 0 [(ad (n 1) (fn s_l1Below 0 [(v 0), (v 1), (v 2), (n 5)])), (v 3), (v 3), .nil])]), (fn s_l3Vec 3 [(v 0), (fn s_l1Below 2 [(v 0), (v 1), (v 2), (n 5)]), (fn s_l1Below 3 [(v 0), (v 1), (v 2), (n 5)]), (fn s_OpSize 0 [(ad (n 1) (fn s_l1Below 0 [(v 0), (v 1), (v 2), (n 5)])), (v 3), (v 3), .nil])])])

/-- spec.l6Model -/
def s_l6Model : Nat := 52
def t_s_l6Model : T :=
  ask s_l1Below [(v 0), (v 1), (v 2), (n 3)] <|
  ask s_l1Below [(v 0), (fn s_l1Below 2 [(v 0), (v 1), (v 2), (n 3)]), (fn s_l1Below 3 [(v 0), (v 1), (v 2), (n 3)]), (n 6)] <|
  .loop 3 [(ad (n 1) (fn s_l1Below 0 [(v 0), (fn s_l1Below 2 [(v 0), (v 1), (v 2), (n 3)]), (fn s_l1Below 3 [(v 0), (v 1), (v 2), (n 3)]), (n 6)])), (ad (n 1) (fn s_l1Below 0 [(v 0), (v 1), (v 2), (n 3)])), .nil, (fn s_l1Below 2 [(v 0), (fn s_l1Below 2 [(v 0), (v 1), (v 2), (n 3)]), (fn s_l1Below 3 [(v 0), (v 1), (v 2), (n 3)]), (n 6)]), (fn s_l1Below 3 [(v 0), (fn s_l1Below 2 [(v 0), (v 1), (v 2), (n 3)]), (fn s_l1Below 3 [(v 0), (v 1), (v 2), (n 3)]), (n 6)])] <|
   .ite (lt (n 0) (v 3))
   (ask s_l5Op [(v 0), (v 6), (v 7), (v 4)] <|
    .need (le (ln (ct (v 5) (ap (.mk 4) [(fn s_l5Op 0 [(v 0), (v 6), (v 7), (v 4)]), (fn s_l5Op 1 [(v 0), (v 6), (v 7), (v 4)]), (fn s_l5Op 2 [(v 0), (v 6), (v 7), (v 4)]), (fn s_l5Op 3 [(v 0), (v 6), (v 7), (v 4)])]))) (n 274877906944)) <|
    .again 0 [(sb (v 3) (n 1)), (fn s_l5Op 2 [(v 0), (v 6), (v 7), (v 4)]), (ct (v 5) (ap (.mk 4) [(fn s_l5Op 0 [(v 0), (v 6), (v 7), (v 4)]), (fn s_l5Op 1 [(v 0), (v 6), (v 7), (v 4)]), (fn s_l5Op 2 [(v 0), (v 6), (v 7), (v 4)]), (fn s_l5Op 3 [(v 0), (v 6), (v 7), (v 4)])])), (fn s_l5Op 5 [(v 0), (v 6), (v 7), (v 4)]), (fn s_l5Op 6 [(v 0), (v 6), (v 7), (v 4)])])
   (.ret [(v 5), (v 0), (v 6), (v 7)])

/-- spec.FixOk -/
def s_FixOk : Nat := 70
def t_s_FixOk : T :=
  ask s_l1In [(v 0), (n (-2147483647)), (n 2147483647)] <|
  .ret [(fn s_l1In 0 [(v 0), (n (-2147483647)), (n 2147483647)])]

/-- spec.OpOk -/
def s_OpOk : Nat := 64
def t_s_OpOk : T :=
  ask s_l1In [(v 0), (n 1), (n 5)] <|
  .ask (nt (nt (fn s_l1In 0 [(v 0), (n 1), (n 5)]))) s_l1In [(v 1), (n 1), (n 6)] <|
  .need (ro (nt (fn s_l1In 0 [(v 0), (n 1), (n 5)])) (nt (nt (fn s_l1In 0 [(v 0), (n 1), (n 5)])))) <|
  .ask (nt (it (nt (fn s_l1In 0 [(v 0), (n 1), (n 5)])) tt (nt (fn s_l1In 0 [(v 1), (n 1), (n 6)])))) s_l1In [(v 2), (n 1), (n 6)] <|
  .need (ro (it (nt (fn s_l1In 0 [(v 0), (n 1), (n 5)])) tt (nt (fn s_l1In 0 [(v 1), (n 1), (n 6)]))) (nt (it (nt (fn s_l1In 0 [(v 0), (n 1), (n 5)])) tt (nt (fn s_l1In 0 [(v 1), (n 1), (n 6)]))))) <|
  .need (ro (nt (nt (it (it (nt (fn s_l1In 0 [(v 0), (n 1), (n 5)])) tt (nt (fn s_l1In 0 [(v 1), (n 1), (n 6)]))) tt (nt (fn s_l1In 0 [(v 2), (n 1), (n 6)]))))) (ro (nt (nt (eq (v 0) (n 1)))) (an (nt (it (it (nt (fn s_l1In 0 [(v 0), (n 1), (n 5)])) tt (nt (fn s_l1In 0 [(v 1), (n 1), (n 6)]))) tt (nt (fn s_l1In 0 [(v 2), (n 1), (n 6)])))) (nt (eq (v 0) (n 1)))))) <|
  .need (ro (it (it (nt (fn s_l1In 0 [(v 0), (n 1), (n 5)])) tt (nt (fn s_l1In 0 [(v 1), (n 1), (n 6)]))) tt (nt (fn s_l1In 0 [(v 2), (n 1), (n 6)]))) (nt (it (it (nt (fn s_l1In 0 [(v 0), (n 1), (n 5)])) tt (nt (fn s_l1In 0 [(v 1), (n 1), (n 6)]))) tt (nt (fn s_l1In 0 [(v 2), (n 1), (n 6)]))))) <|
  .ask (nt (it (it (it (nt (fn s_l1In 0 [(v 0), (n 1), (n 5)])) tt (nt (fn s_l1In 0 [(v 1), (n 1), (n 6)]))) tt (nt (fn s_l1In 0 [(v 2), (n 1), (n 6)]))) tt (it (nt (eq (v 0) (n 1))) (nt (eq (v 1) (v 2))) ff))) s_OpSize [(v 0), (v 1), (v 2), (v 3)] <|
  .need (ro (it (it (it (nt (fn s_l1In 0 [(v 0), (n 1), (n 5)])) tt (nt (fn s_l1In 0 [(v 1), (n 1), (n 6)]))) tt (nt (fn s_l1In 0 [(v 2), (n 1), (n 6)]))) tt (it (nt (eq (v 0) (n 1))) (nt (eq (v 1) (v 2))) ff)) (nt (it (it (it (nt (fn s_l1In 0 [(v 0), (n 1), (n 5)])) tt (nt (fn s_l1In 0 [(v 1), (n 1), (n 6)]))) tt (nt (fn s_l1In 0 [(v 2), (n 1), (n 6)]))) tt (it (nt (eq (v 0) (n 1))) (nt (eq (v 1) (v 2))) ff)))) <|
  .ite (it (it (it (it (nt (fn s_l1In 0 [(v 0), (n 1), (n 5)])) tt (nt (fn s_l1In 0 [(v 1), (n 1), (n 6)]))) tt (nt (fn s_l1In 0 [(v 2), (n 1), (n 6)]))) tt (it (nt (eq (v 0) (n 1))) (nt (eq (v 1) (v 2))) ff)) tt (nt (eq (ln (v 3)) (fn s_OpSize 0 [(v 0), (v 1), (v 2), (v 3)]))))
  (.ret [ff])
  (.loop 4 [(n 0)] <|
    .ite (lt (v 4) (ln (v 3)))
    (.need (le (n 0) (v 4)) <|
     .need (lt (v 4) (ln (v 3))) <|
     ask s_FixOk [(ce 0 (v 3) (v 4))] <|
     .ite (nt (fn s_FixOk 0 [(ce 0 (v 3) (v 4))]))
     (.ret [ff])
     (.again 0 [(ad (v 4) (n 1))]))
    (.ret [tt]))

/-- spec.ModelOk -/
def s_ModelOk : Nat := 17
def t_s_ModelOk : T :=
  .loop 1 [(n 0)] <|
   .ite (lt (v 1) (ln (v 0)))
   (.need (le (n 0) (v 1)) <|
    .need (lt (v 1) (ln (v 0))) <|
    ask s_OpOk [(ce 0 (v 0) (v 1)), (ce 1 (v 0) (v 1)), (ce 2 (v 0) (v 1)), (ce 3 (v 0) (v 1))] <|
    .need (ro (nt (an (nt (nt (fn s_OpOk 0 [(ce 0 (v 0) (v 1)), (ce 1 (v 0) (v 1)), (ce 2 (v 0) (v 1)), (ce 3 (v 0) (v 1))]))) (lt (n 0) (v 1)))) (le (n 0) (v 1))) <|
    .need (ro (nt (an (nt (nt (fn s_OpOk 0 [(ce 0 (v 0) (v 1)), (ce 1 (v 0) (v 1)), (ce 2 (v 0) (v 1)), (ce 3 (v 0) (v 1))]))) (lt (n 0) (v 1)))) (lt (v 1) (ln (v 0)))) <|
    .need (ro (nt (an (nt (nt (fn s_OpOk 0 [(ce 0 (v 0) (v 1)), (ce 1 (v 0) (v 1)), (ce 2 (v 0) (v 1)), (ce 3 (v 0) (v 1))]))) (lt (n 0) (v 1)))) (le (n 0) (sb (v 1) (n 1)))) <|
    .need (ro (nt (an (nt (nt (fn s_OpOk 0 [(ce 0 (v 0) (v 1)), (ce 1 (v 0) (v 1)), (ce 2 (v 0) (v 1)), (ce 3 (v 0) (v 1))]))) (lt (n 0) (v 1)))) (lt (sb (v 1) (n 1)) (ln (v 0)))) <|
    .need (ro (nt (nt (nt (fn s_OpOk 0 [(ce 0 (v 0) (v 1)), (ce 1 (v 0) (v 1)), (ce 2 (v 0) (v 1)), (ce 3 (v 0) (v 1))])))) (ro (nt (lt (n 0) (v 1))) (an (nt (nt (fn s_OpOk 0 [(ce 0 (v 0) (v 1)), (ce 1 (v 0) (v 1)), (ce 2 (v 0) (v 1)), (ce 3 (v 0) (v 1))]))) (lt (n 0) (v 1))))) <|
    .need (ro (nt (fn s_OpOk 0 [(ce 0 (v 0) (v 1)), (ce 1 (v 0) (v 1)), (ce 2 (v 0) (v 1)), (ce 3 (v 0) (v 1))])) (nt (nt (fn s_OpOk 0 [(ce 0 (v 0) (v 1)), (ce 1 (v 0) (v 1)), (ce 2 (v 0) (v 1)), (ce 3 (v 0) (v 1))])))) <|
    .ite (it (nt (fn s_OpOk 0 [(ce 0 (v 0) (v 1)), (ce 1 (v 0) (v 1)), (ce 2 (v 0) (v 1)), (ce 3 (v 0) (v 1))])) tt (it (lt (n 0) (v 1)) (nt (eq (ce 1 (v 0) (v 1)) (ce 2 (v 0) (sb (v 1) (n 1))))) ff))
    (.ret [ff])
    (.again 0 [(ad (v 1) (n 1))]))
   (ask s_l1In [(ln (v 0)), (n 1), (n 8)] <|
    .ret [(fn s_l1In 0 [(ln (v 0)), (n 1), (n 8)])])

/-- spec.InOf -/
def s_InOf : Nat := 37
def t_s_InOf : T :=
  ask s_ModelOk [(v 0)] <|
  .ite (nt (fn s_ModelOk 0 [(v 0)]))
  (.ret [(n 0)])
  (.need (le (n 0) (n 0)) <|
   .need (lt (n 0) (ln (v 0))) <|
   .ret [(ce 1 (v 0) (n 0))])

/-- spec.OutOf -/
def s_OutOf : Nat := 109
def t_s_OutOf : T :=
  ask s_ModelOk [(v 0)] <|
  .ite (nt (fn s_ModelOk 0 [(v 0)]))
  (.ret [(n 0)])
  (.need (le (n 0) (sb (ln (v 0)) (n 1))) <|
   .need (lt (sb (ln (v 0)) (n 1)) (ln (v 0))) <|
   .ret [(ce 2 (v 0) (sb (ln (v 0)) (n 1)))])

/-- spec.l6Batch -/
def s_l6Batch : Nat := 54
def t_s_l6Batch : T :=
  ask s_l1Below [(v 0), (v 1), (v 2), (n 4)] <|
  .loop 4 [(ad (n 1) (fn s_l1Below 0 [(v 0), (v 1), (v 2), (n 4)])), (fn s_l1Below 2 [(v 0), (v 1), (v 2), (n 4)]), (fn s_l1Below 3 [(v 0), (v 1), (v 2), (n 4)]), .nil] <|
   .ite (lt (n 0) (v 4))
   (ask s_InOf [(v 3)] <|
    ask s_l3Vec [(v 0), (v 5), (v 6), (fn s_InOf 0 [(v 3)])] <|
    ask s_OutOf [(v 3)] <|
    ask s_l3Vec [(v 0), (fn s_l3Vec 2 [(v 0), (v 5), (v 6), (fn s_InOf 0 [(v 3)])]), (fn s_l3Vec 3 [(v 0), (v 5), (v 6), (fn s_InOf 0 [(v 3)])]), (fn s_OutOf 0 [(v 3)])] <|
    .need (le (ln (ct (v 7) (ap (.mk 2) [(fn s_l3Vec 0 [(v 0), (v 5), (v 6), (fn s_InOf 0 [(v 3)])]), (fn s_l3Vec 0 [(v 0), (fn s_l3Vec 2 [(v 0), (v 5), (v 6), (fn s_InOf 0 [(v 3)])]), (fn s_l3Vec 3 [(v 0), (v 5), (v 6), (fn s_InOf 0 [(v 3)])]), (fn s_OutOf 0 [(v 3)])])]))) (n 274877906944)) <|
    .again 0 [(sb (v 4) (n 1)), (fn s_l3Vec 2 [(v 0), (fn s_l3Vec 2 [(v 0), (v 5), (v 6), (fn s_InOf 0 [(v 3)])]), (fn s_l3Vec 3 [(v 0), (v 5), (v 6), (fn s_InOf 0 [(v 3)])]), (fn s_OutOf 0 [(v 3)])]), (fn s_l3Vec 3 [(v 0), (fn s_l3Vec 2 [(v 0), (v 5), (v 6), (fn s_InOf 0 [(v 3)])]), (fn s_l3Vec 3 [(v 0), (v 5), (v 6), (fn s_InOf 0 [(v 3)])]), (fn s_OutOf 0 [(v 3)])]), (ct (v 7) (ap (.mk 2) [(fn s_l3Vec 0 [(v 0), (v 5), (v 6), (fn s_InOf 0 [(v 3)])]), (fn s_l3Vec 0 [(v 0), (fn s_l3Vec 2 [(v 0), (v 5), (v 6), (fn s_InOf 0 [(v 3)])]), (fn s_l3Vec 3 [(v 0), (v 5), (v 6), (fn s_InOf 0 [(v 3)])]), (fn s_OutOf 0 [(v 3)])])]))])
   (.ret [(v 7), (v 0), (v 5), (v 6)])

/-- spec.VecOk -/
def s_VecOk : Nat := 36
def t_s_VecOk : T :=
  .loop 1 [(n 0)] <|
   .ite (lt (v 1) (ln (v 0)))
   (.need (le (n 0) (v 1)) <|
    .need (lt (v 1) (ln (v 0))) <|
    ask s_FixOk [(ce 0 (v 0) (v 1))] <|
    .ite (nt (fn s_FixOk 0 [(ce 0 (v 0) (v 1))]))
    (.ret [ff])
    (.again 0 [(ad (v 1) (n 1))]))
   (ask s_l1In [(ln (v 0)), (n 1), (n 6)] <|
    .ret [(fn s_l1In 0 [(ln (v 0)), (n 1), (n 6)])])

/-- spec.BatchOk -/
def s_BatchOk : Nat := 106
def t_s_BatchOk : T :=
  ask s_ModelOk [(v 0)] <|
  .ask (nt (nt (fn s_ModelOk 0 [(v 0)]))) s_l1In [(ln (v 1)), (n 1), (n 5)] <|
  .need (ro (nt (fn s_ModelOk 0 [(v 0)])) (nt (nt (fn s_ModelOk 0 [(v 0)])))) <|
  .ite (it (nt (fn s_ModelOk 0 [(v 0)])) tt (nt (fn s_l1In 0 [(ln (v 1)), (n 1), (n 5)])))
  (.ret [ff])
  (.loop 2 [(n 0)] <|
    .ite (lt (v 2) (ln (v 1)))
    (.need (le (n 0) (v 2)) <|
     .need (lt (v 2) (ln (v 1))) <|
     ask s_VecOk [(ce 0 (v 1) (v 2))] <|
     .need (ro (nt (nt (nt (fn s_VecOk 0 [(ce 0 (v 1) (v 2))])))) (le (n 0) (v 2))) <|
     .need (ro (nt (nt (nt (fn s_VecOk 0 [(ce 0 (v 1) (v 2))])))) (lt (v 2) (ln (v 1)))) <|
     .ask (nt (nt (fn s_VecOk 0 [(ce 0 (v 1) (v 2))]))) s_VecOk [(ce 1 (v 1) (v 2))] <|
     .need (ro (nt (fn s_VecOk 0 [(ce 0 (v 1) (v 2))])) (nt (nt (fn s_VecOk 0 [(ce 0 (v 1) (v 2))])))) <|
     .need (ro (nt (nt (it (nt (fn s_VecOk 0 [(ce 0 (v 1) (v 2))])) tt (nt (fn s_VecOk 0 [(ce 1 (v 1) (v 2))]))))) (le (n 0) (v 2))) <|
     .need (ro (nt (nt (it (nt (fn s_VecOk 0 [(ce 0 (v 1) (v 2))])) tt (nt (fn s_VecOk 0 [(ce 1 (v 1) (v 2))]))))) (lt (v 2) (ln (v 1)))) <|
     .ask (nt (it (nt (fn s_VecOk 0 [(ce 0 (v 1) (v 2))])) tt (nt (fn s_VecOk 0 [(ce 1 (v 1) (v 2))])))) s_InOf [(v 0)] <|
     .need (ro (it (nt (fn s_VecOk 0 [(ce 0 (v 1) (v 2))])) tt (nt (fn s_VecOk 0 [(ce 1 (v 1) (v 2))]))) (nt (it (nt (fn s_VecOk 0 [(ce 0 (v 1) (v 2))])) tt (nt (fn s_VecOk 0 [(ce 1 (v 1) (v 2))]))))) <|
     .need (ro (nt (nt (it (it (nt (fn s_VecOk 0 [(ce 0 (v 1) (v 2))])) tt (nt (fn s_VecOk 0 [(ce 1 (v 1) (v 2))]))) tt (nt (eq (ln (ce 0 (v 1) (v 2))) (fn s_InOf 0 [(v 0)])))))) (le (n 0) (v 2))) <|
     .need (ro (nt (nt (it (it (nt (fn s_VecOk 0 [(ce 0 (v 1) (v 2))])) tt (nt (fn s_VecOk 0 [(ce 1 (v 1) (v 2))]))) tt (nt (eq (ln (ce 0 (v 1) (v 2))) (fn s_InOf 0 [(v 0)])))))) (lt (v 2) (ln (v 1)))) <|
     .ask (nt (it (it (nt (fn s_VecOk 0 [(ce 0 (v 1) (v 2))])) tt (nt (fn s_VecOk 0 [(ce 1 (v 1) (v 2))]))) tt (nt (eq (ln (ce 0 (v 1) (v 2))) (fn s_InOf 0 [(v 0)]))))) s_OutOf [(v 0)] <|
     .need (ro (it (it (nt (fn s_VecOk 0 [(ce 0 (v 1) (v 2))])) tt (nt (fn s_VecOk 0 [(ce 1 (v 1) (v 2))]))) tt (nt (eq (ln (ce 0 (v 1) (v 2))) (fn s_InOf 0 [(v 0)])))) (nt (it (it (nt (fn s_VecOk 0 [(ce 0 (v 1) (v 2))])) tt (nt (fn s_VecOk 0 [(ce 1 (v 1) (v 2))]))) tt (nt (eq (ln (ce 0 (v 1) (v 2))) (fn s_InOf 0 [(v 0)])))))) <|
     .ite (it (it (it (nt (fn s_VecOk 0 [(ce 0 (v 1) (v 2))])) tt (nt (fn s_VecOk 0 [(ce 1 (v 1) (v 2))]))) tt (nt (eq (ln (ce 0 (v 1) (v 2))) (fn s_InOf 0 [(v 0)])))) tt (nt (eq (ln (ce 1 (v 1) (v 2))) (fn s_OutOf 0 [(v 0)]))))
     (.ret [ff])
     (.again 0 [(ad (v 2) (n 1))]))
    (.ret [tt]))

/-- spec.ZeroGrads -/
def s_ZeroGrads : Nat := 107
def t_s_ZeroGrads : T :=
  .loop 1 [(n 0), .nil] <|
   .ask (lt (v 1) (ln (v 0))) s_ModelOk [(v 0)] <|
   .need (ro (nt (lt (v 1) (ln (v 0)))) (lt (v 1) (ln (v 0)))) <|
   .ite (it (lt (v 1) (ln (v 0))) (fn s_ModelOk 0 [(v 0)]) ff)
   (.need (le (n 0) (v 1)) <|
    .need (lt (v 1) (ln (v 0))) <|
    .need (le (n 0) (ln (ce 3 (v 0) (v 1)))) <|
    .need (le (ln (ce 3 (v 0) (v 1))) (n 274877906944)) <|
    .need (le (ln (ct (v 2) (ap (.mk 1) [(ap (.rep) [(ln (ce 3 (v 0) (v 1))), (n 0)])]))) (n 274877906944)) <|
    .again 0 [(ad (v 1) (n 1)), (ct (v 2) (ap (.mk 1) [(ap (.rep) [(ln (ce 3 (v 0) (v 1))), (n 0)])]))])
   (.ret [(v 2), (n 0), ff])

/-- spec.l5Mat -/
def s_l5Mat : Nat := 92
def t_s_l5Mat : T :=
  .ret [(v 2), (v 1), (v 3)]

/-- spec.MatOk -/
def s_MatOk : Nat := 138
def t_s_MatOk : T :=
  ask s_l1In [(v 0), (n 1), (n 6)] <|
  .ask (nt (nt (fn s_l1In 0 [(v 0), (n 1), (n 6)]))) s_l1In [(v 1), (n 1), (n 6)] <|
  .need (ro (nt (fn s_l1In 0 [(v 0), (n 1), (n 6)])) (nt (nt (fn s_l1In 0 [(v 0), (n 1), (n 6)])))) <|
  .need (ro (it (nt (fn s_l1In 0 [(v 0), (n 1), (n 6)])) tt (nt (fn s_l1In 0 [(v 1), (n 1), (n 6)]))) (nt (it (nt (fn s_l1In 0 [(v 0), (n 1), (n 6)])) tt (nt (fn s_l1In 0 [(v 1), (n 1), (n 6)]))))) <|
  .ite (it (it (nt (fn s_l1In 0 [(v 0), (n 1), (n 6)])) tt (nt (fn s_l1In 0 [(v 1), (n 1), (n 6)]))) tt (nt (eq (ln (v 2)) (mu (v 0) (v 1)))))
  (.ret [ff])
  (.loop 3 [(n 0)] <|
    .ite (lt (v 3) (ln (v 2)))
    (.need (le (n 0) (v 3)) <|
     .need (lt (v 3) (ln (v 2))) <|
     ask s_FixOk [(ce 0 (v 2) (v 3))] <|
     .ite (nt (fn s_FixOk 0 [(ce 0 (v 2) (v 3))]))
     (.ret [ff])
     (.again 0 [(ad (v 3) (n 1))]))
    (.ret [tt]))

/-- spec.l4Row -/
def s_l4Row : Nat := 140
def t_s_l4Row : T :=
  .need (le (n 0) (mu (v 3) (v 1))) <|
  .need (le (mu (v 3) (v 1)) (mu (ad (v 3) (n 1)) (v 1))) <|
  .need (le (mu (ad (v 3) (n 1)) (v 1)) (ln (v 2))) <|
  .ret [(ap (.slice) [(v 2), (mu (v 3) (v 1)), (mu (ad (v 3) (n 1)) (v 1))])]

/-- spec.l3Pair -/
def s_l3Pair : Nat := 141
def t_s_l3Pair : T :=
  ask s_VecOk [(v 0)] <|
  .ask (fn s_VecOk 0 [(v 0)]) s_VecOk [(v 1)] <|
  .need (ro (nt (fn s_VecOk 0 [(v 0)])) (fn s_VecOk 0 [(v 0)])) <|
  .need (ro (nt (it (fn s_VecOk 0 [(v 0)]) (fn s_VecOk 0 [(v 1)]) ff)) (it (fn s_VecOk 0 [(v 0)]) (fn s_VecOk 0 [(v 1)]) ff)) <|
  .ret [(it (it (fn s_VecOk 0 [(v 0)]) (fn s_VecOk 0 [(v 1)]) ff) (eq (ln (v 0)) (ln (v 1))) ff)]

/-- spec.l2Sat -/
def s_l2Sat : Nat := 120
def t_s_l2Sat : T :=
  .ite (lt (n 2147483647) (v 0))
  (.ret [(n 2147483647), tt])
  (.ite (lt (v 0) (n (-2147483647)))
   (.ret [(n (-2147483647)), tt])
   (.ret [(v 0), ff]))

/-- spec.l2In -/
def s_l2In : Nat := 122
def t_s_l2In : T :=
  ask s_l2Sat [(v 0)] <|
  .ret [(fn s_l2Sat 0 [(v 0)])]

/-- spec.l2Floor -/
def s_l2Floor : Nat := 121
def t_s_l2Floor : T :=
  .need (nt (eq (v 1) (n 0))) <|
  .need (nt (eq (v 1) (n 0))) <|
  .need (ro (nt (nt (eq (rm (v 0) (v 1)) (n 0)))) (nt (eq (rm (v 0) (v 1)) (n 0)))) <|
  .ite (it (nt (eq (rm (v 0) (v 1)) (n 0))) (nt (ap (.eqb) [(lt (v 0) (n 0)), (lt (v 1) (n 0))])) ff)
  (.ret [(sb (qu (v 0) (v 1)) (n 1))])
  (.ret [(qu (v 0) (v 1))])

/-- spec.FixMul -/
def s_FixMul : Nat := 71
def t_s_FixMul : T :=
  ask s_l2In [(v 0)] <|
  ask s_l2In [(v 1)] <|
  ask s_l2Floor [(mu (fn s_l2In 0 [(v 0)]) (fn s_l2In 0 [(v 1)])), (n 65536)] <|
  ask s_l2Sat [(fn s_l2Floor 0 [(mu (fn s_l2In 0 [(v 0)]) (fn s_l2In 0 [(v 1)])), (n 65536)])] <|
  .ret [(fn s_l2Sat 0 [(fn s_l2Floor 0 [(mu (fn s_l2In 0 [(v 0)]) (fn s_l2In 0 [(v 1)])), (n 65536)])]), (fn s_l2Sat 1 [(fn s_l2Floor 0 [(mu (fn s_l2In 0 [(v 0)]) (fn s_l2In 0 [(v 1)])), (n 65536)])])]

/-- spec.FixAdd -/
def s_FixAdd : Nat := 72
def t_s_FixAdd : T :=
  ask s_l2In [(v 0)] <|
  ask s_l2In [(v 1)] <|
  ask s_l2Sat [(ad (fn s_l2In 0 [(v 0)]) (fn s_l2In 0 [(v 1)]))] <|
  .ret [(fn s_l2Sat 0 [(ad (fn s_l2In 0 [(v 0)]) (fn s_l2In 0 [(v 1)]))]), (fn s_l2Sat 1 [(ad (fn s_l2In 0 [(v 0)]) (fn s_l2In 0 [(v 1)]))])]

/-- spec.VecDot -/
def s_VecDot : Nat := 139
def t_s_VecDot : T :=
  .loop 2 [(n 0), ff, (n 0)] <|
   .ask (lt (v 2) (ln (v 0))) s_l3Pair [(v 0), (v 1)] <|
   .need (ro (nt (lt (v 2) (ln (v 0)))) (lt (v 2) (ln (v 0)))) <|
   .ite (it (lt (v 2) (ln (v 0))) (fn s_l3Pair 0 [(v 0), (v 1)]) ff)
   (.need (le (n 0) (v 2)) <|
    .need (lt (v 2) (ln (v 0))) <|
    .need (le (n 0) (v 2)) <|
    .need (lt (v 2) (ln (v 1))) <|
    ask s_FixMul [(ce 0 (v 0) (v 2)), (ce 0 (v 1) (v 2))] <|
    ask s_FixAdd [(v 4), (fn s_FixMul 0 [(ce 0 (v 0) (v 2)), (ce 0 (v 1) (v 2))])] <|
    .need (ro (v 3) (nt (v 3))) <|
    .need (ro (it (v 3) tt (fn s_FixMul 1 [(ce 0 (v 0) (v 2)), (ce 0 (v 1) (v 2))])) (nt (it (v 3) tt (fn s_FixMul 1 [(ce 0 (v 0) (v 2)), (ce 0 (v 1) (v 2))])))) <|
    .again 0 [(ad (v 2) (n 1)), (it (it (v 3) tt (fn s_FixMul 1 [(ce 0 (v 0) (v 2)), (ce 0 (v 1) (v 2))])) tt (fn s_FixAdd 1 [(v 4), (fn s_FixMul 0 [(ce 0 (v 0) (v 2)), (ce 0 (v 1) (v 2))])])), (fn s_FixAdd 0 [(v 4), (fn s_FixMul 0 [(ce 0 (v 0) (v 2)), (ce 0 (v 1) (v 2))])])])
   (.ret [(v 4), (v 3)])

/-- spec.MatVec -/
def s_MatVec : Nat := 91
def t_s_MatVec : T :=
  ask s_MatOk [(v 0), (v 1), (v 2)] <|
  .ask (nt (nt (fn s_MatOk 0 [(v 0), (v 1), (v 2)]))) s_VecOk [(v 3)] <|
  .need (ro (nt (fn s_MatOk 0 [(v 0), (v 1), (v 2)])) (nt (nt (fn s_MatOk 0 [(v 0), (v 1), (v 2)])))) <|
  .need (ro (it (nt (fn s_MatOk 0 [(v 0), (v 1), (v 2)])) tt (nt (fn s_VecOk 0 [(v 3)]))) (nt (it (nt (fn s_MatOk 0 [(v 0), (v 1), (v 2)])) tt (nt (fn s_VecOk 0 [(v 3)]))))) <|
  .ite (it (it (nt (fn s_MatOk 0 [(v 0), (v 1), (v 2)])) tt (nt (fn s_VecOk 0 [(v 3)]))) tt (nt (eq (ln (v 3)) (v 1))))
  (.ret [.nil, ff])
  (.loop 4 [(n 0), ff, .nil] <|
    .ite (lt (v 4) (v 0))
    (ask s_l4Row [(v 0), (v 1), (v 2), (v 4)] <|
     ask s_VecDot [(fn s_l4Row 0 [(v 0), (v 1), (v 2), (v 4)]), (v 3)] <|
     .need (le (ln (ct (v 6) (ap (.mk 1) [(fn s_VecDot 0 [(fn s_l4Row 0 [(v 0), (v 1), (v 2), (v 4)]), (v 3)])]))) (n 274877906944)) <|
     .need (ro (v 5) (nt (v 5))) <|
     .again 0 [(ad (v 4) (n 1)), (it (v 5) tt (fn s_VecDot 1 [(fn s_l4Row 0 [(v 0), (v 1), (v 2), (v 4)]), (v 3)])), (ct (v 6) (ap (.mk 1) [(fn s_VecDot 0 [(fn s_l4Row 0 [(v 0), (v 1), (v 2), (v 4)]), (v 3)])]))])
    (.ret [(v 6), (v 5)]))

/-- spec.VecAdd -/
def s_VecAdd : Nat := 93
def t_s_VecAdd : T :=
  .loop 2 [(n 0), ff, .nil] <|
   .ask (lt (v 2) (ln (v 0))) s_l3Pair [(v 0), (v 1)] <|
   .need (ro (nt (lt (v 2) (ln (v 0)))) (lt (v 2) (ln (v 0)))) <|
   .ite (it (lt (v 2) (ln (v 0))) (fn s_l3Pair 0 [(v 0), (v 1)]) ff)
   (.need (le (n 0) (v 2)) <|
    .need (lt (v 2) (ln (v 0))) <|
    .need (le (n 0) (v 2)) <|
    .need (lt (v 2) (ln (v 1))) <|
    ask s_FixAdd [(ce 0 (v 0) (v 2)), (ce 0 (v 1) (v 2))] <|
    .need (le (ln (ct (v 4) (ap (.mk 1) [(fn s_FixAdd 0 [(ce 0 (v 0) (v 2)), (ce 0 (v 1) (v 2))])]))) (n 274877906944)) <|
    .need (ro (v 3) (nt (v 3))) <|
    .again 0 [(ad (v 2) (n 1)), (it (v 3) tt (fn s_FixAdd 1 [(ce 0 (v 0) (v 2)), (ce 0 (v 1) (v 2))])), (ct (v 4) (ap (.mk 1) [(fn s_FixAdd 0 [(ce 0 (v 0) (v 2)), (ce 0 (v 1) (v 2))])]))])
   (.ret [(v 4), (v 3)])

/-- spec.Relu -/
def s_Relu : Nat := 142
def t_s_Relu : T :=
  ask s_l2In [(v 0)] <|
  .ret [(ap (.mx) [(n 0), (fn s_l2In 0 [(v 0)])])]

/-- spec.VecRelu -/
def s_VecRelu : Nat := 94
def t_s_VecRelu : T :=
  .loop 1 [(n 0), .nil] <|
   .ask (lt (v 1) (ln (v 0))) s_VecOk [(v 0)] <|
   .need (ro (nt (lt (v 1) (ln (v 0)))) (lt (v 1) (ln (v 0)))) <|
   .ite (it (lt (v 1) (ln (v 0))) (fn s_VecOk 0 [(v 0)]) ff)
   (.need (le (n 0) (v 1)) <|
    .need (lt (v 1) (ln (v 0))) <|
    ask s_Relu [(ce 0 (v 0) (v 1))] <|
    .need (le (ln (ct (v 2) (ap (.mk 1) [(fn s_Relu 0 [(ce 0 (v 0) (v 1))])]))) (n 274877906944)) <|
    .again 0 [(ad (v 1) (n 1)), (ct (v 2) (ap (.mk 1) [(fn s_Relu 0 [(ce 0 (v 0) (v 1))])]))])
   (.ret [(v 2)])

/-- spec.VecScale -/
def s_VecScale : Nat := 95
def t_s_VecScale : T :=
  .loop 2 [(n 0), ff, .nil] <|
   .ask (lt (v 2) (ln (v 1))) s_VecOk [(v 1)] <|
   .need (ro (nt (lt (v 2) (ln (v 1)))) (lt (v 2) (ln (v 1)))) <|
   .ask (it (lt (v 2) (ln (v 1))) (fn s_VecOk 0 [(v 1)]) ff) s_FixOk [(v 0)] <|
   .need (ro (nt (it (lt (v 2) (ln (v 1))) (fn s_VecOk 0 [(v 1)]) ff)) (it (lt (v 2) (ln (v 1))) (fn s_VecOk 0 [(v 1)]) ff)) <|
   .ite (it (it (lt (v 2) (ln (v 1))) (fn s_VecOk 0 [(v 1)]) ff) (fn s_FixOk 0 [(v 0)]) ff)
   (.need (le (n 0) (v 2)) <|
    .need (lt (v 2) (ln (v 1))) <|
    ask s_FixMul [(v 0), (ce 0 (v 1) (v 2))] <|
    .need (le (ln (ct (v 4) (ap (.mk 1) [(fn s_FixMul 0 [(v 0), (ce 0 (v 1) (v 2))])]))) (n 274877906944)) <|
    .need (ro (v 3) (nt (v 3))) <|
    .again 0 [(ad (v 2) (n 1)), (it (v 3) tt (fn s_FixMul 1 [(v 0), (ce 0 (v 1) (v 2))])), (ct (v 4) (ap (.mk 1) [(fn s_FixMul 0 [(v 0), (ce 0 (v 1) (v 2))])]))])
   (.ret [(v 4), (v 3)])

/-- spec.OpForward -/
def s_OpForward : Nat := 39
def t_s_OpForward : T :=
  ask s_OpOk [(v 0), (v 1), (v 2), (v 3)] <|
  .ask (nt (nt (fn s_OpOk 0 [(v 0), (v 1), (v 2), (v 3)]))) s_VecOk [(v 4)] <|
  .need (ro (nt (fn s_OpOk 0 [(v 0), (v 1), (v 2), (v 3)])) (nt (nt (fn s_OpOk 0 [(v 0), (v 1), (v 2), (v 3)])))) <|
  .need (ro (it (nt (fn s_OpOk 0 [(v 0), (v 1), (v 2), (v 3)])) tt (nt (fn s_VecOk 0 [(v 4)]))) (nt (it (nt (fn s_OpOk 0 [(v 0), (v 1), (v 2), (v 3)])) tt (nt (fn s_VecOk 0 [(v 4)]))))) <|
  .ite (it (it (nt (fn s_OpOk 0 [(v 0), (v 1), (v 2), (v 3)])) tt (nt (fn s_VecOk 0 [(v 4)]))) tt (nt (eq (ln (v 4)) (v 1))))
  (.ret [.nil, ff])
  (.ite (eq (v 0) (n 1))
   (ask s_l5Mat [(v 0), (v 1), (v 2), (v 3)] <|
    ask s_MatVec [(fn s_l5Mat 0 [(v 0), (v 1), (v 2), (v 3)]), (fn s_l5Mat 1 [(v 0), (v 1), (v 2), (v 3)]), (fn s_l5Mat 2 [(v 0), (v 1), (v 2), (v 3)]), (v 4)] <|
    .ret [(fn s_MatVec 0 [(fn s_l5Mat 0 [(v 0), (v 1), (v 2), (v 3)]), (fn s_l5Mat 1 [(v 0), (v 1), (v 2), (v 3)]), (fn s_l5Mat 2 [(v 0), (v 1), (v 2), (v 3)]), (v 4)]), (fn s_MatVec 1 [(fn s_l5Mat 0 [(v 0), (v 1), (v 2), (v 3)]), (fn s_l5Mat 1 [(v 0), (v 1), (v 2), (v 3)]), (fn s_l5Mat 2 [(v 0), (v 1), (v 2), (v 3)]), (v 4)])])
   (.ite (eq (v 0) (n 2))
    (ask s_VecAdd [(v 4), (v 3)] <|
     .ret [(fn s_VecAdd 0 [(v 4), (v 3)]), (fn s_VecAdd 1 [(v 4), (v 3)])])
    (.ite (eq (v 0) (n 3))
     (ask s_VecRelu [(v 4)] <|
      .ret [(fn s_VecRelu 0 [(v 4)]), ff])
     (.ite (eq (v 0) (n 4))
      (.need (le (n 0) (n 0)) <|
       .need (lt (n 0) (ln (v 3))) <|
       ask s_VecScale [(ce 0 (v 3) (n 0)), (v 4)] <|
       .ret [(fn s_VecScale 0 [(ce 0 (v 3) (n 0)), (v 4)]), (fn s_VecScale 1 [(ce 0 (v 3) (n 0)), (v 4)])])
      (ask s_l5Mat [(v 0), (v 1), (v 2), (v 3)] <|
       ask s_MatVec [(fn s_l5Mat 0 [(v 0), (v 1), (v 2), (v 3)]), (fn s_l5Mat 1 [(v 0), (v 1), (v 2), (v 3)]), (fn s_l5Mat 2 [(v 0), (v 1), (v 2), (v 3)]), (v 4)] <|
       ask s_VecAdd [(v 4), (fn s_MatVec 0 [(fn s_l5Mat 0 [(v 0), (v 1), (v 2), (v 3)]), (fn s_l5Mat 1 [(v 0), (v 1), (v 2), (v 3)]), (fn s_l5Mat 2 [(v 0), (v 1), (v 2), (v 3)]), (v 4)])] <|
       .need (ro (fn s_MatVec 1 [(fn s_l5Mat 0 [(v 0), (v 1), (v 2), (v 3)]), (fn s_l5Mat 1 [(v 0), (v 1), (v 2), (v 3)]), (fn s_l5Mat 2 [(v 0), (v 1), (v 2), (v 3)]), (v 4)]) (nt (fn s_MatVec 1 [(fn s_l5Mat 0 [(v 0), (v 1), (v 2), (v 3)]), (fn s_l5Mat 1 [(v 0), (v 1), (v 2), (v 3)]), (fn s_l5Mat 2 [(v 0), (v 1), (v 2), (v 3)]), (v 4)]))) <|
       .ret [(fn s_VecAdd 0 [(v 4), (fn s_MatVec 0 [(fn s_l5Mat 0 [(v 0), (v 1), (v 2), (v 3)]), (fn s_l5Mat 1 [(v 0), (v 1), (v 2), (v 3)]), (fn s_l5Mat 2 [(v 0), (v 1), (v 2), (v 3)]), (v 4)])]), (it (fn s_MatVec 1 [(fn s_l5Mat 0 [(v 0), (v 1), (v 2), (v 3)]), (fn s_l5Mat 1 [(v 0), (v 1), (v 2), (v 3)]), (fn s_l5Mat 2 [(v 0), (v 1), (v 2), (v 3)]), (v 4)]) tt (fn s_VecAdd 1 [(v 4), (fn s_MatVec 0 [(fn s_l5Mat 0 [(v 0), (v 1), (v 2), (v 3)]), (fn s_l5Mat 1 [(v 0), (v 1), (v 2), (v 3)]), (fn s_l5Mat 2 [(v 0), (v 1), (v 2), (v 3)]), (v 4)])]))])))))

/-- spec.l7Inputs -/
def s_l7Inputs : Nat := 148
def t_s_l7Inputs : T :=
  .need (le (ln (ct .nil (v 1))) (n 274877906944)) <|
  .loop 2 [(n 0), ff, (ap (.mk 1) [(ct .nil (v 1))])] <|
   .ite (lt (v 2) (ln (v 0)))
   (.need (le (n 0) (v 2)) <|
    .need (lt (v 2) (ln (v 0))) <|
    .need (le (n 0) (v 2)) <|
    .need (lt (v 2) (ln (v 4))) <|
    ask s_OpForward [(ce 0 (v 0) (v 2)), (ce 1 (v 0) (v 2)), (ce 2 (v 0) (v 2)), (ce 3 (v 0) (v 2)), (ce 0 (v 4) (v 2))] <|
    .need (le (ln (ct (v 4) (ap (.mk 1) [(fn s_OpForward 0 [(ce 0 (v 0) (v 2)), (ce 1 (v 0) (v 2)), (ce 2 (v 0) (v 2)), (ce 3 (v 0) (v 2)), (ce 0 (v 4) (v 2))])]))) (n 274877906944)) <|
    .need (ro (v 3) (nt (v 3))) <|
    .again 0 [(ad (v 2) (n 1)), (it (v 3) tt (fn s_OpForward 1 [(ce 0 (v 0) (v 2)), (ce 1 (v 0) (v 2)), (ce 2 (v 0) (v 2)), (ce 3 (v 0) (v 2)), (ce 0 (v 4) (v 2))])), (ct (v 4) (ap (.mk 1) [(fn s_OpForward 0 [(ce 0 (v 0) (v 2)), (ce 1 (v 0) (v 2)), (ce 2 (v 0) (v 2)), (ce 3 (v 0) (v 2)), (ce 0 (v 4) (v 2))])]))])
   (.ret [(v 4), (v 3)])

/-- spec.FixSub -/
def s_FixSub : Nat := 119
def t_s_FixSub : T :=
  ask s_l2In [(v 0)] <|
  ask s_l2In [(v 1)] <|
  ask s_l2Sat [(sb (fn s_l2In 0 [(v 0)]) (fn s_l2In 0 [(v 1)]))] <|
  .ret [(fn s_l2Sat 0 [(sb (fn s_l2In 0 [(v 0)]) (fn s_l2In 0 [(v 1)]))]), (fn s_l2Sat 1 [(sb (fn s_l2In 0 [(v 0)]) (fn s_l2In 0 [(v 1)]))])]

/-- spec.VecSub -/
def s_VecSub : Nat := 150
def t_s_VecSub : T :=
  .loop 2 [(n 0), ff, .nil] <|
   .ask (lt (v 2) (ln (v 0))) s_l3Pair [(v 0), (v 1)] <|
   .need (ro (nt (lt (v 2) (ln (v 0)))) (lt (v 2) (ln (v 0)))) <|
   .ite (it (lt (v 2) (ln (v 0))) (fn s_l3Pair 0 [(v 0), (v 1)]) ff)
   (.need (le (n 0) (v 2)) <|
    .need (lt (v 2) (ln (v 0))) <|
    .need (le (n 0) (v 2)) <|
    .need (lt (v 2) (ln (v 1))) <|
    ask s_FixSub [(ce 0 (v 0) (v 2)), (ce 0 (v 1) (v 2))] <|
    .need (le (ln (ct (v 4) (ap (.mk 1) [(fn s_FixSub 0 [(ce 0 (v 0) (v 2)), (ce 0 (v 1) (v 2))])]))) (n 274877906944)) <|
    .need (ro (v 3) (nt (v 3))) <|
    .again 0 [(ad (v 2) (n 1)), (it (v 3) tt (fn s_FixSub 1 [(ce 0 (v 0) (v 2)), (ce 0 (v 1) (v 2))])), (ct (v 4) (ap (.mk 1) [(fn s_FixSub 0 [(ce 0 (v 0) (v 2)), (ce 0 (v 1) (v 2))])]))])
   (.ret [(v 4), (v 3)])

/-- spec.LossOf -/
def s_LossOf : Nat := 149
def t_s_LossOf : T :=
  ask s_VecSub [(v 0), (v 1)] <|
  ask s_VecDot [(fn s_VecSub 0 [(v 0), (v 1)]), (fn s_VecSub 0 [(v 0), (v 1)])] <|
  .need (nt (eq (n 2) (n 0))) <|
  .need (ro (fn s_VecSub 1 [(v 0), (v 1)]) (nt (fn s_VecSub 1 [(v 0), (v 1)]))) <|
  .ret [(qu (fn s_VecDot 0 [(fn s_VecSub 0 [(v 0), (v 1)]), (fn s_VecSub 0 [(v 0), (v 1)])]) (n 2)), (it (fn s_VecSub 1 [(v 0), (v 1)]) tt (fn s_VecDot 1 [(fn s_VecSub 0 [(v 0), (v 1)]), (fn s_VecSub 0 [(v 0), (v 1)])]))]

/-- spec.VecMask -/
def s_VecMask : Nat := 163
def t_s_VecMask : T :=
  .loop 2 [(n 0), .nil] <|
   .ask (lt (v 2) (ln (v 0))) s_l3Pair [(v 0), (v 1)] <|
   .need (ro (nt (lt (v 2) (ln (v 0)))) (lt (v 2) (ln (v 0)))) <|
   .ite (it (lt (v 2) (ln (v 0))) (fn s_l3Pair 0 [(v 0), (v 1)]) ff)
   (.need (le (n 0) (v 2)) <|
    .need (lt (v 2) (ln (v 0))) <|
    .ite (lt (n 0) (ce 0 (v 0) (v 2)))
    (.need (le (n 0) (v 2)) <|
     .need (lt (v 2) (ln (v 1))) <|
     .need (le (ln (ct (v 3) (ap (.mk 1) [(ce 0 (v 1) (v 2))]))) (n 274877906944)) <|
     .again 0 [(ad (v 2) (n 1)), (ct (v 3) (ap (.mk 1) [(ce 0 (v 1) (v 2))]))])
    (.need (le (ln (ct (v 3) (ap (.mk 1) [(n 0)]))) (n 274877906944)) <|
     .again 0 [(ad (v 2) (n 1)), (ct (v 3) (ap (.mk 1) [(n 0)]))]))
   (.ret [(v 3)])

/-- spec.l4Col -/
def s_l4Col : Nat := 166
def t_s_l4Col : T :=
  .loop 4 [(n 0), .nil] <|
   .ite (lt (v 4) (v 0))
   (.need (le (n 0) (ad (mu (v 4) (v 1)) (v 3))) <|
    .need (lt (ad (mu (v 4) (v 1)) (v 3)) (ln (v 2))) <|
    .need (le (ln (ct (v 5) (ap (.mk 1) [(ce 0 (v 2) (ad (mu (v 4) (v 1)) (v 3)))]))) (n 274877906944)) <|
    .again 0 [(ad (v 4) (n 1)), (ct (v 5) (ap (.mk 1) [(ce 0 (v 2) (ad (mu (v 4) (v 1)) (v 3)))]))])
   (.ret [(v 5)])

/-- spec.MatBack -/
def s_MatBack : Nat := 164
def t_s_MatBack : T :=
  ask s_MatOk [(v 0), (v 1), (v 2)] <|
  .ask (nt (nt (fn s_MatOk 0 [(v 0), (v 1), (v 2)]))) s_VecOk [(v 3)] <|
  .need (ro (nt (fn s_MatOk 0 [(v 0), (v 1), (v 2)])) (nt (nt (fn s_MatOk 0 [(v 0), (v 1), (v 2)])))) <|
  .need (ro (it (nt (fn s_MatOk 0 [(v 0), (v 1), (v 2)])) tt (nt (fn s_VecOk 0 [(v 3)]))) (nt (it (nt (fn s_MatOk 0 [(v 0), (v 1), (v 2)])) tt (nt (fn s_VecOk 0 [(v 3)]))))) <|
  .ite (it (it (nt (fn s_MatOk 0 [(v 0), (v 1), (v 2)])) tt (nt (fn s_VecOk 0 [(v 3)]))) tt (nt (eq (ln (v 3)) (v 0))))
  (.ret [.nil, ff])
  (.loop 4 [(n 0), ff, .nil] <|
    .ite (lt (v 4) (v 1))
    (ask s_l4Col [(v 0), (v 1), (v 2), (v 4)] <|
     ask s_VecDot [(fn s_l4Col 0 [(v 0), (v 1), (v 2), (v 4)]), (v 3)] <|
     .need (le (ln (ct (v 6) (ap (.mk 1) [(fn s_VecDot 0 [(fn s_l4Col 0 [(v 0), (v 1), (v 2), (v 4)]), (v 3)])]))) (n 274877906944)) <|
     .need (ro (v 5) (nt (v 5))) <|
     .again 0 [(ad (v 4) (n 1)), (it (v 5) tt (fn s_VecDot 1 [(fn s_l4Col 0 [(v 0), (v 1), (v 2), (v 4)]), (v 3)])), (ct (v 6) (ap (.mk 1) [(fn s_VecDot 0 [(fn s_l4Col 0 [(v 0), (v 1), (v 2), (v 4)]), (v 3)])]))])
    (.ret [(v 6), (v 5)]))

/-- spec.Outer -/
def s_Outer : Nat := 165
def t_s_Outer : T :=
  ask s_VecOk [(v 0)] <|
  .ask (nt (nt (fn s_VecOk 0 [(v 0)]))) s_VecOk [(v 1)] <|
  .need (ro (nt (fn s_VecOk 0 [(v 0)])) (nt (nt (fn s_VecOk 0 [(v 0)])))) <|
  .ite (it (nt (fn s_VecOk 0 [(v 0)])) tt (nt (fn s_VecOk 0 [(v 1)])))
  (.ret [(n 0), (n 0), .nil, ff])
  (.loop 2 [(n 0), ff, .nil] <|
    .ite (lt (v 2) (ln (v 0)))
    (.loop 5 [(v 2), (n 0), (v 3), (v 4)] <|
      .ite (lt (v 6) (ln (v 1)))
      (.need (le (n 0) (v 5)) <|
       .need (lt (v 5) (ln (v 0))) <|
       .need (le (n 0) (v 6)) <|
       .need (lt (v 6) (ln (v 1))) <|
       ask s_FixMul [(ce 0 (v 0) (v 5)), (ce 0 (v 1) (v 6))] <|
       .need (le (ln (ct (v 8) (ap (.mk 1) [(fn s_FixMul 0 [(ce 0 (v 0) (v 5)), (ce 0 (v 1) (v 6))])]))) (n 274877906944)) <|
       .need (ro (v 7) (nt (v 7))) <|
       .again 0 [(v 5), (ad (v 6) (n 1)), (it (v 7) tt (fn s_FixMul 1 [(ce 0 (v 0) (v 5)), (ce 0 (v 1) (v 6))])), (ct (v 8) (ap (.mk 1) [(fn s_FixMul 0 [(ce 0 (v 0) (v 5)), (ce 0 (v 1) (v 6))])]))])
      (.again 1 [(ad (v 5) (n 1)), (v 7), (v 8)]))
    (.ret [(ln (v 0)), (ln (v 1)), (v 4), (v 3)]))

/-- spec.OpBackward -/
def s_OpBackward : Nat := 161
def t_s_OpBackward : T :=
  ask s_OpOk [(v 0), (v 1), (v 2), (v 3)] <|
  .ask (nt (nt (fn s_OpOk 0 [(v 0), (v 1), (v 2), (v 3)]))) s_VecOk [(v 4)] <|
  .need (ro (nt (fn s_OpOk 0 [(v 0), (v 1), (v 2), (v 3)])) (nt (nt (fn s_OpOk 0 [(v 0), (v 1), (v 2), (v 3)])))) <|
  .need (ro (it (nt (fn s_OpOk 0 [(v 0), (v 1), (v 2), (v 3)])) tt (nt (fn s_VecOk 0 [(v 4)]))) (nt (it (nt (fn s_OpOk 0 [(v 0), (v 1), (v 2), (v 3)])) tt (nt (fn s_VecOk 0 [(v 4)]))))) <|
  .ask (nt (it (it (nt (fn s_OpOk 0 [(v 0), (v 1), (v 2), (v 3)])) tt (nt (fn s_VecOk 0 [(v 4)]))) tt (nt (eq (ln (v 4)) (v 1))))) s_VecOk [(v 5)] <|
  .need (ro (it (it (nt (fn s_OpOk 0 [(v 0), (v 1), (v 2), (v 3)])) tt (nt (fn s_VecOk 0 [(v 4)]))) tt (nt (eq (ln (v 4)) (v 1)))) (nt (it (it (nt (fn s_OpOk 0 [(v 0), (v 1), (v 2), (v 3)])) tt (nt (fn s_VecOk 0 [(v 4)]))) tt (nt (eq (ln (v 4)) (v 1)))))) <|
  .need (ro (it (it (it (nt (fn s_OpOk 0 [(v 0), (v 1), (v 2), (v 3)])) tt (nt (fn s_VecOk 0 [(v 4)]))) tt (nt (eq (ln (v 4)) (v 1)))) tt (nt (fn s_VecOk 0 [(v 5)]))) (nt (it (it (it (nt (fn s_OpOk 0 [(v 0), (v 1), (v 2), (v 3)])) tt (nt (fn s_VecOk 0 [(v 4)]))) tt (nt (eq (ln (v 4)) (v 1)))) tt (nt (fn s_VecOk 0 [(v 5)]))))) <|
  .ite (it (it (it (it (nt (fn s_OpOk 0 [(v 0), (v 1), (v 2), (v 3)])) tt (nt (fn s_VecOk 0 [(v 4)]))) tt (nt (eq (ln (v 4)) (v 1)))) tt (nt (fn s_VecOk 0 [(v 5)]))) tt (nt (eq (ln (v 5)) (v 2))))
  (.ret [.nil, .nil, ff])
  (.ite (eq (v 0) (n 2))
   (.need (le (ln (ct .nil (v 5))) (n 274877906944)) <|
    .need (le (ln (ct .nil (v 5))) (n 274877906944)) <|
    .ret [(ct .nil (v 5)), (ct .nil (v 5)), ff])
   (.ite (eq (v 0) (n 3))
    (ask s_VecMask [(v 4), (v 5)] <|
     .ret [(fn s_VecMask 0 [(v 4), (v 5)]), .nil, ff])
    (.ite (eq (v 0) (n 4))
     (.need (le (n 0) (n 0)) <|
      .need (lt (n 0) (ln (v 3))) <|
      ask s_VecScale [(ce 0 (v 3) (n 0)), (v 5)] <|
      ask s_VecDot [(v 5), (v 4)] <|
      .need (ro (fn s_VecScale 1 [(ce 0 (v 3) (n 0)), (v 5)]) (nt (fn s_VecScale 1 [(ce 0 (v 3) (n 0)), (v 5)]))) <|
      .ret [(fn s_VecScale 0 [(ce 0 (v 3) (n 0)), (v 5)]), (ap (.mk 1) [(fn s_VecDot 0 [(v 5), (v 4)])]), (it (fn s_VecScale 1 [(ce 0 (v 3) (n 0)), (v 5)]) tt (fn s_VecDot 1 [(v 5), (v 4)]))])
     (ask s_l5Mat [(v 0), (v 1), (v 2), (v 3)] <|
      ask s_MatBack [(fn s_l5Mat 0 [(v 0), (v 1), (v 2), (v 3)]), (fn s_l5Mat 1 [(v 0), (v 1), (v 2), (v 3)]), (fn s_l5Mat 2 [(v 0), (v 1), (v 2), (v 3)]), (v 5)] <|
      ask s_Outer [(v 5), (v 4)] <|
      .ite (eq (v 0) (n 1))
      (.need (ro (fn s_MatBack 1 [(fn s_l5Mat 0 [(v 0), (v 1), (v 2), (v 3)]), (fn s_l5Mat 1 [(v 0), (v 1), (v 2), (v 3)]), (fn s_l5Mat 2 [(v 0), (v 1), (v 2), (v 3)]), (v 5)]) (nt (fn s_MatBack 1 [(fn s_l5Mat 0 [(v 0), (v 1), (v 2), (v 3)]), (fn s_l5Mat 1 [(v 0), (v 1), (v 2), (v 3)]), (fn s_l5Mat 2 [(v 0), (v 1), (v 2), (v 3)]), (v 5)]))) <|
       .ret [(fn s_MatBack 0 [(fn s_l5Mat 0 [(v 0), (v 1), (v 2), (v 3)]), (fn s_l5Mat 1 [(v 0), (v 1), (v 2), (v 3)]), (fn s_l5Mat 2 [(v 0), (v 1), (v 2), (v 3)]), (v 5)]), (fn s_Outer 2 [(v 5), (v 4)]), (it (fn s_MatBack 1 [(fn s_l5Mat 0 [(v 0), (v 1), (v 2), (v 3)]), (fn s_l5Mat 1 [(v 0), (v 1), (v 2), (v 3)]), (fn s_l5Mat 2 [(v 0), (v 1), (v 2), (v 3)]), (v 5)]) tt (fn s_Outer 3 [(v 5), (v 4)]))])
      (ask s_VecAdd [(v 5), (fn s_MatBack 0 [(fn s_l5Mat 0 [(v 0), (v 1), (v 2), (v 3)]), (fn s_l5Mat 1 [(v 0), (v 1), (v 2), (v 3)]), (fn s_l5Mat 2 [(v 0), (v 1), (v 2), (v 3)]), (v 5)])] <|
       .need (ro (fn s_MatBack 1 [(fn s_l5Mat 0 [(v 0), (v 1), (v 2), (v 3)]), (fn s_l5Mat 1 [(v 0), (v 1), (v 2), (v 3)]), (fn s_l5Mat 2 [(v 0), (v 1), (v 2), (v 3)]), (v 5)]) (nt (fn s_MatBack 1 [(fn s_l5Mat 0 [(v 0), (v 1), (v 2), (v 3)]), (fn s_l5Mat 1 [(v 0), (v 1), (v 2), (v 3)]), (fn s_l5Mat 2 [(v 0), (v 1), (v 2), (v 3)]), (v 5)]))) <|
       .need (ro (it (fn s_MatBack 1 [(fn s_l5Mat 0 [(v 0), (v 1), (v 2), (v 3)]), (fn s_l5Mat 1 [(v 0), (v 1), (v 2), (v 3)]), (fn s_l5Mat 2 [(v 0), (v 1), (v 2), (v 3)]), (v 5)]) tt (fn s_Outer 3 [(v 5), (v 4)])) (nt (it (fn s_MatBack 1 [(fn s_l5Mat 0 [(v 0), (v 1), (v 2), (v 3)]), (fn s_l5Mat 1 [(v 0), (v 1), (v 2), (v 3)]), (fn s_l5Mat 2 [(v 0), (v 1), (v 2), (v 3)]), (v 5)]) tt (fn s_Outer 3 [(v 5), (v 4)])))) <|
       .ret [(fn s_VecAdd 0 [(v 5), (fn s_MatBack 0 [(fn s_l5Mat 0 [(v 0), (v 1), (v 2), (v 3)]), (fn s_l5Mat 1 [(v 0), (v 1), (v 2), (v 3)]), (fn s_l5Mat 2 [(v 0), (v 1), (v 2), (v 3)]), (v 5)])]), (fn s_Outer 2 [(v 5), (v 4)]), (it (it (fn s_MatBack 1 [(fn s_l5Mat 0 [(v 0), (v 1), (v 2), (v 3)]), (fn s_l5Mat 1 [(v 0), (v 1), (v 2), (v 3)]), (fn s_l5Mat 2 [(v 0), (v 1), (v 2), (v 3)]), (v 5)]) tt (fn s_Outer 3 [(v 5), (v 4)])) tt (fn s_VecAdd 1 [(v 5), (fn s_MatBack 0 [(fn s_l5Mat 0 [(v 0), (v 1), (v 2), (v 3)]), (fn s_l5Mat 1 [(v 0), (v 1), (v 2), (v 3)]), (fn s_l5Mat 2 [(v 0), (v 1), (v 2), (v 3)]), (v 5)])]))])))))

/-- spec.l7Back -/
def s_l7Back : Nat := 151
def t_s_l7Back : T :=
  .need (le (n 0) (ln (v 0))) <|
  .need (le (ln (v 0)) (n 274877906944)) <|
  .loop 3 [(sb (ln (v 0)) (n 1)), ff, (v 2), (ap (.rep) [(ln (v 0)), .nil])] <|
   .ite (le (n 0) (v 3))
   (.need (le (n 0) (v 3)) <|
    .need (lt (v 3) (ln (v 0))) <|
    .need (le (n 0) (v 3)) <|
    .need (lt (v 3) (ln (v 1))) <|
    ask s_OpBackward [(ce 0 (v 0) (v 3)), (ce 1 (v 0) (v 3)), (ce 2 (v 0) (v 3)), (ce 3 (v 0) (v 3)), (ce 0 (v 1) (v 3)), (v 5)] <|
    .need (le (n 0) (v 3)) <|
    .need (lt (v 3) (ln (v 6))) <|
    .need (ro (v 4) (nt (v 4))) <|
    .again 0 [(sb (v 3) (n 1)), (it (v 4) tt (fn s_OpBackward 2 [(ce 0 (v 0) (v 3)), (ce 1 (v 0) (v 3)), (ce 2 (v 0) (v 3)), (ce 3 (v 0) (v 3)), (ce 0 (v 1) (v 3)), (v 5)])), (fn s_OpBackward 0 [(ce 0 (v 0) (v 3)), (ce 1 (v 0) (v 3)), (ce 2 (v 0) (v 3)), (ce 3 (v 0) (v 3)), (ce 0 (v 1) (v 3)), (v 5)]), (ap (.set 0) [(v 6), (v 3), (fn s_OpBackward 1 [(ce 0 (v 0) (v 3)), (ce 1 (v 0) (v 3)), (ce 2 (v 0) (v 3)), (ce 3 (v 0) (v 3)), (ce 0 (v 1) (v 3)), (v 5)])])])
   (.ret [(v 6), (v 5), (v 4)])

/-- spec.MicroGrads -/
def s_MicroGrads : Nat := 108
def t_s_MicroGrads : T :=
  ask s_BatchOk [(v 0), (ap (.mk 2) [(v 1), (v 2)])] <|
  .ite (nt (fn s_BatchOk 0 [(v 0), (ap (.mk 2) [(v 1), (v 2)])]))
  (.ret [.nil, (n 0), ff])
  (ask s_l7Inputs [(v 0), (v 1)] <|
   .need (le (n 0) (sb (ln (fn s_l7Inputs 0 [(v 0), (v 1)])) (n 1))) <|
   .need (lt (sb (ln (fn s_l7Inputs 0 [(v 0), (v 1)])) (n 1)) (ln (fn s_l7Inputs 0 [(v 0), (v 1)]))) <|
   ask s_LossOf [(ce 0 (fn s_l7Inputs 0 [(v 0), (v 1)]) (sb (ln (fn s_l7Inputs 0 [(v 0), (v 1)])) (n 1))), (v 2)] <|
   ask s_VecSub [(ce 0 (fn s_l7Inputs 0 [(v 0), (v 1)]) (sb (ln (fn s_l7Inputs 0 [(v 0), (v 1)])) (n 1))), (v 2)] <|
   ask s_l7Back [(v 0), (fn s_l7Inputs 0 [(v 0), (v 1)]), (fn s_VecSub 0 [(ce 0 (fn s_l7Inputs 0 [(v 0), (v 1)]) (sb (ln (fn s_l7Inputs 0 [(v 0), (v 1)])) (n 1))), (v 2)])] <|
   .need (ro (fn s_l7Inputs 1 [(v 0), (v 1)]) (nt (fn s_l7Inputs 1 [(v 0), (v 1)]))) <|
   .need (ro (it (fn s_l7Inputs 1 [(v 0), (v 1)]) tt (fn s_LossOf 1 [(ce 0 (fn s_l7Inputs 0 [(v 0), (v 1)]) (sb (ln (fn s_l7Inputs 0 [(v 0), (v 1)])) (n 1))), (v 2)])) (nt (it (fn s_l7Inputs 1 [(v 0), (v 1)]) tt (fn s_LossOf 1 [(ce 0 (fn s_l7Inputs 0 [(v 0), (v 1)]) (sb (ln (fn s_l7Inputs 0 [(v 0), (v 1)])) (n 1))), (v 2)])))) <|
   .need (ro (it (it (fn s_l7Inputs 1 [(v 0), (v 1)]) tt (fn s_LossOf 1 [(ce 0 (fn s_l7Inputs 0 [(v 0), (v 1)]) (sb (ln (fn s_l7Inputs 0 [(v 0), (v 1)])) (n 1))), (v 2)])) tt (fn s_VecSub 1 [(ce 0 (fn s_l7Inputs 0 [(v 0), (v 1)]) (sb (ln (fn s_l7Inputs 0 [(v 0), (v 1)])) (n 1))), (v 2)])) (nt (it (it (fn s_l7Inputs 1 [(v 0), (v 1)]) tt (fn s_LossOf 1 [(ce 0 (fn s_l7Inputs 0 [(v 0), (v 1)]) (sb (ln (fn s_l7Inputs 0 [(v 0), (v 1)])) (n 1))), (v 2)])) tt (fn s_VecSub 1 [(ce 0 (fn s_l7Inputs 0 [(v 0), (v 1)]) (sb (ln (fn s_l7Inputs 0 [(v 0), (v 1)])) (n 1))), (v 2)])))) <|
   .ret [(fn s_l7Back 0 [(v 0), (fn s_l7Inputs 0 [(v 0), (v 1)]), (fn s_VecSub 0 [(ce 0 (fn s_l7Inputs 0 [(v 0), (v 1)]) (sb (ln (fn s_l7Inputs 0 [(v 0), (v 1)])) (n 1))), (v 2)])]), (fn s_LossOf 0 [(ce 0 (fn s_l7Inputs 0 [(v 0), (v 1)]) (sb (ln (fn s_l7Inputs 0 [(v 0), (v 1)])) (n 1))), (v 2)]), (it (it (it (fn s_l7Inputs 1 [(v 0), (v 1)]) tt (fn s_LossOf 1 [(ce 0 (fn s_l7Inputs 0 [(v 0), (v 1)]) (sb (ln (fn s_l7Inputs 0 [(v 0), (v 1)])) (n 1))), (v 2)])) tt (fn s_VecSub 1 [(ce 0 (fn s_l7Inputs 0 [(v 0), (v 1)]) (sb (ln (fn s_l7Inputs 0 [(v 0), (v 1)])) (n 1))), (v 2)])) tt (fn s_l7Back 2 [(v 0), (fn s_l7Inputs 0 [(v 0), (v 1)]), (fn s_VecSub 0 [(ce 0 (fn s_l7Inputs 0 [(v 0), (v 1)]) (sb (ln (fn s_l7Inputs 0 [(v 0), (v 1)])) (n 1))), (v 2)])]))])

/-- spec.l7Add -/
def s_l7Add : Nat := 104
def t_s_l7Add : T :=
  .loop 2 [(n 0), ff, .nil] <|
   .need (ro (nt (lt (v 2) (ln (v 0)))) (lt (v 2) (ln (v 0)))) <|
   .ite (it (lt (v 2) (ln (v 0))) (lt (v 2) (ln (v 1))) ff)
   (.need (le (n 0) (v 2)) <|
    .need (lt (v 2) (ln (v 0))) <|
    .need (le (n 0) (v 2)) <|
    .need (lt (v 2) (ln (v 1))) <|
    ask s_FixAdd [(ce 0 (v 0) (v 2)), (ce 0 (v 1) (v 2))] <|
    .need (le (ln (ct (v 4) (ap (.mk 1) [(fn s_FixAdd 0 [(ce 0 (v 0) (v 2)), (ce 0 (v 1) (v 2))])]))) (n 274877906944)) <|
    .need (ro (v 3) (nt (v 3))) <|
    .again 0 [(ad (v 2) (n 1)), (it (v 3) tt (fn s_FixAdd 1 [(ce 0 (v 0) (v 2)), (ce 0 (v 1) (v 2))])), (ct (v 4) (ap (.mk 1) [(fn s_FixAdd 0 [(ce 0 (v 0) (v 2)), (ce 0 (v 1) (v 2))])]))])
   (.ret [(v 4), (v 3)])

/-- spec.AddGrads -/
def s_AddGrads : Nat := 51
def t_s_AddGrads : T :=
  .need (ro (v 2) (nt (v 2))) <|
  .loop 6 [(n 0), (it (v 2) tt (v 5)), .nil] <|
   .need (ro (nt (lt (v 6) (ln (v 0)))) (lt (v 6) (ln (v 0)))) <|
   .ite (it (lt (v 6) (ln (v 0))) (lt (v 6) (ln (v 3))) ff)
   (.need (le (n 0) (v 6)) <|
    .need (lt (v 6) (ln (v 0))) <|
    .need (le (n 0) (v 6)) <|
    .need (lt (v 6) (ln (v 3))) <|
    ask s_l7Add [(ce 0 (v 0) (v 6)), (ce 0 (v 3) (v 6))] <|
    .need (le (ln (ct (v 8) (ap (.mk 1) [(fn s_l7Add 0 [(ce 0 (v 0) (v 6)), (ce 0 (v 3) (v 6))])]))) (n 274877906944)) <|
    .need (ro (v 7) (nt (v 7))) <|
    .again 0 [(ad (v 6) (n 1)), (it (v 7) tt (fn s_l7Add 1 [(ce 0 (v 0) (v 6)), (ce 0 (v 3) (v 6))])), (ct (v 8) (ap (.mk 1) [(fn s_l7Add 0 [(ce 0 (v 0) (v 6)), (ce 0 (v 3) (v 6))])]))])
   (ask s_FixAdd [(v 1), (v 4)] <|
    .need (ro (v 7) (nt (v 7))) <|
    .ret [(v 8), (fn s_FixAdd 0 [(v 1), (v 4)]), (it (v 7) tt (fn s_FixAdd 1 [(v 1), (v 4)]))])

/-- spec.Sequential -/
def s_Sequential : Nat := 53
def t_s_Sequential : T :=
  ask s_BatchOk [(v 0), (v 1)] <|
  .ite (nt (fn s_BatchOk 0 [(v 0), (v 1)]))
  (.ret [.nil, (n 0), ff])
  (ask s_ZeroGrads [(v 0)] <|
   .loop 2 [(n 0), (fn s_ZeroGrads 1 [(v 0)]), (fn s_ZeroGrads 2 [(v 0)]), (fn s_ZeroGrads 0 [(v 0)])] <|
    .ite (lt (v 2) (ln (v 1)))
    (.need (le (n 0) (v 2)) <|
     .need (lt (v 2) (ln (v 1))) <|
     ask s_MicroGrads [(v 0), (ce 0 (v 1) (v 2)), (ce 1 (v 1) (v 2))] <|
     ask s_AddGrads [(v 5), (v 3), (v 4), (fn s_MicroGrads 0 [(v 0), (ce 0 (v 1) (v 2)), (ce 1 (v 1) (v 2))]), (fn s_MicroGrads 1 [(v 0), (ce 0 (v 1) (v 2)), (ce 1 (v 1) (v 2))]), (fn s_MicroGrads 2 [(v 0), (ce 0 (v 1) (v 2)), (ce 1 (v 1) (v 2))])] <|
     .again 0 [(ad (v 2) (n 1)), (fn s_AddGrads 1 [(v 5), (v 3), (v 4), (fn s_MicroGrads 0 [(v 0), (ce 0 (v 1) (v 2)), (ce 1 (v 1) (v 2))]), (fn s_MicroGrads 1 [(v 0), (ce 0 (v 1) (v 2)), (ce 1 (v 1) (v 2))]), (fn s_MicroGrads 2 [(v 0), (ce 0 (v 1) (v 2)), (ce 1 (v 1) (v 2))])]), (fn s_AddGrads 2 [(v 5), (v 3), (v 4), (fn s_MicroGrads 0 [(v 0), (ce 0 (v 1) (v 2)), (ce 1 (v 1) (v 2))]), (fn s_MicroGrads 1 [(v 0), (ce 0 (v 1) (v 2)), (ce 1 (v 1) (v 2))]), (fn s_MicroGrads 2 [(v 0), (ce 0 (v 1) (v 2)), (ce 1 (v 1) (v 2))])]), (fn s_AddGrads 0 [(v 5), (v 3), (v 4), (fn s_MicroGrads 0 [(v 0), (ce 0 (v 1) (v 2)), (ce 1 (v 1) (v 2))]), (fn s_MicroGrads 1 [(v 0), (ce 0 (v 1) (v 2)), (ce 1 (v 1) (v 2))]), (fn s_MicroGrads 2 [(v 0), (ce 0 (v 1) (v 2)), (ce 1 (v 1) (v 2))])])])
    (.ret [(v 5), (v 3), (v 4)]))

/-- spec.SwingNew -/
def s_SwingNew : Nat := 147
def t_s_SwingNew : T :=
  ask s_ZeroGrads [(v 0)] <|
  .ret [(fn s_ZeroGrads 0 [(v 0)]), (n 0)]

/-- spec.l11Rows -/
def s_l11Rows : Nat := 68
def t_s_l11Rows : T :=
  .loop 1 [(n 0), .nil] <|
   .ite (lt (v 1) (ln (v 0)))
   (.need (le (n 0) (v 1)) <|
    .need (lt (v 1) (ln (v 0))) <|
    .need (le (ln (ct .nil (ce 0 (v 0) (v 1)))) (n 274877906944)) <|
    .need (le (ln (ct (v 2) (ap (.mk 1) [(ct .nil (ce 0 (v 0) (v 1)))]))) (n 274877906944)) <|
    .again 0 [(ad (v 1) (n 1)), (ct (v 2) (ap (.mk 1) [(ct .nil (ce 0 (v 0) (v 1)))]))])
   (.ret [(v 2)])

/-- spec.l11Ops -/
def s_l11Ops : Nat := 118
def t_s_l11Ops : T :=
  .loop 1 [(n 0), .nil] <|
   .ite (lt (v 1) (ln (v 0)))
   (.need (le (n 0) (v 1)) <|
    .need (lt (v 1) (ln (v 0))) <|
    .need (le (n 0) (v 1)) <|
    .need (lt (v 1) (ln (v 0))) <|
    .need (le (ln (ct .nil (ce 3 (v 0) (v 1)))) (n 274877906944)) <|
    .need (le (ln (ct (v 2) (ap (.mk 4) [(ce 0 (v 0) (v 1)), (ce 1 (v 0) (v 1)), (ce 2 (v 0) (v 1)), (ct .nil (ce 3 (v 0) (v 1)))]))) (n 274877906944)) <|
    .again 0 [(ad (v 1) (n 1)), (ct (v 2) (ap (.mk 4) [(ce 0 (v 0) (v 1)), (ce 1 (v 0) (v 1)), (ce 2 (v 0) (v 1)), (ct .nil (ce 3 (v 0) (v 1)))]))])
   (.ret [(v 2)])

/-- spec.Learn -/
def s_Learn : Nat := 69
def t_s_Learn : T :=
  ask s_l11Ops [(v 0)] <|
  ask s_ModelOk [(v 0)] <|
  .ask (nt (nt (fn s_ModelOk 0 [(v 0)]))) s_FixOk [(v 4)] <|
  .need (ro (nt (fn s_ModelOk 0 [(v 0)])) (nt (nt (fn s_ModelOk 0 [(v 0)])))) <|
  .need (ro (it (nt (fn s_ModelOk 0 [(v 0)])) tt (nt (fn s_FixOk 0 [(v 4)]))) (nt (it (nt (fn s_ModelOk 0 [(v 0)])) tt (nt (fn s_FixOk 0 [(v 4)]))))) <|
  .ite (it (it (nt (fn s_ModelOk 0 [(v 0)])) tt (nt (fn s_FixOk 0 [(v 4)]))) tt (nt (eq (ln (v 1)) (ln (v 0)))))
  (.ret [(fn s_l11Ops 0 [(v 0)]), ff])
  (.loop 5 [(n 0), ff, (fn s_l11Ops 0 [(v 0)])] <|
    .ite (lt (v 5) (ln (v 0)))
    (.need (le (n 0) (v 5)) <|
     .need (lt (v 5) (ln (v 1))) <|
     .need (le (n 0) (v 5)) <|
     .need (lt (v 5) (ln (v 0))) <|
     .ite (nt (eq (ln (ce 0 (v 1) (v 5))) (ln (ce 3 (v 0) (v 5)))))
     (ask s_l11Ops [(v 0)] <|
      .ret [(fn s_l11Ops 0 [(v 0)]), ff])
     (.loop 8 [(v 5), (n 0), (v 6), (v 7), .nil] <|
       .need (le (n 0) (v 8)) <|
       .need (lt (v 8) (ln (v 0))) <|
       .ite (lt (v 9) (ln (ce 3 (v 0) (v 8))))
       (.need (le (n 0) (v 8)) <|
        .need (lt (v 8) (ln (v 1))) <|
        .need (le (n 0) (v 9)) <|
        .need (lt (v 9) (ln (ce 0 (v 1) (v 8)))) <|
        ask s_FixMul [(v 4), (ce 0 (ce 0 (v 1) (v 8)) (v 9))] <|
        .need (le (n 0) (v 8)) <|
        .need (lt (v 8) (ln (v 0))) <|
        .need (le (n 0) (v 9)) <|
        .need (lt (v 9) (ln (ce 3 (v 0) (v 8)))) <|
        ask s_FixSub [(ce 0 (ce 3 (v 0) (v 8)) (v 9)), (fn s_FixMul 0 [(v 4), (ce 0 (ce 0 (v 1) (v 8)) (v 9))])] <|
        .need (le (ln (ct (v 12) (ap (.mk 1) [(fn s_FixSub 0 [(ce 0 (ce 3 (v 0) (v 8)) (v 9)), (fn s_FixMul 0 [(v 4), (ce 0 (ce 0 (v 1) (v 8)) (v 9))])])]))) (n 274877906944)) <|
        .need (ro (v 10) (nt (v 10))) <|
        .need (ro (it (v 10) tt (fn s_FixMul 1 [(v 4), (ce 0 (ce 0 (v 1) (v 8)) (v 9))])) (nt (it (v 10) tt (fn s_FixMul 1 [(v 4), (ce 0 (ce 0 (v 1) (v 8)) (v 9))])))) <|
        .again 0 [(v 8), (ad (v 9) (n 1)), (it (it (v 10) tt (fn s_FixMul 1 [(v 4), (ce 0 (ce 0 (v 1) (v 8)) (v 9))])) tt (fn s_FixSub 1 [(ce 0 (ce 3 (v 0) (v 8)) (v 9)), (fn s_FixMul 0 [(v 4), (ce 0 (ce 0 (v 1) (v 8)) (v 9))])])), (v 11), (ct (v 12) (ap (.mk 1) [(fn s_FixSub 0 [(ce 0 (ce 3 (v 0) (v 8)) (v 9)), (fn s_FixMul 0 [(v 4), (ce 0 (ce 0 (v 1) (v 8)) (v 9))])])]))])
       (.need (le (n 0) (v 8)) <|
        .need (lt (v 8) (ln (v 11))) <|
        .again 1 [(ad (v 8) (n 1)), (v 10), (ap (.set 3) [(v 11), (v 8), (v 12)])])))
    (.ret [(v 7), (v 6)]))

/-- spec.SwingOk -/
def s_SwingOk : Nat := 43
def t_s_SwingOk : T :=
  ask s_ModelOk [(v 0)] <|
  .need (ro (nt (fn s_ModelOk 0 [(v 0)])) (nt (nt (fn s_ModelOk 0 [(v 0)])))) <|
  .need (ro (it (nt (fn s_ModelOk 0 [(v 0)])) tt (nt (eq (ln (v 1)) (ln (v 0))))) (nt (it (nt (fn s_ModelOk 0 [(v 0)])) tt (nt (eq (ln (v 1)) (ln (v 0))))))) <|
  .ite (it (it (nt (fn s_ModelOk 0 [(v 0)])) tt (nt (eq (ln (v 1)) (ln (v 0))))) tt (lt (v 2) (n 0)))
  (.ret [ff])
  (.loop 3 [(n 0)] <|
    .ite (lt (v 3) (ln (v 0)))
    (.need (le (n 0) (v 3)) <|
     .need (lt (v 3) (ln (v 1))) <|
     .need (le (n 0) (v 3)) <|
     .need (lt (v 3) (ln (v 0))) <|
     .ite (nt (eq (ln (ce 0 (v 1) (v 3))) (ln (ce 3 (v 0) (v 3)))))
     (.ret [ff])
     (.loop 4 [(v 3), (n 0)] <|
       .need (le (n 0) (v 4)) <|
       .need (lt (v 4) (ln (v 1))) <|
       .ite (lt (v 5) (ln (ce 0 (v 1) (v 4))))
       (.need (le (n 0) (v 4)) <|
        .need (lt (v 4) (ln (v 1))) <|
        .need (le (n 0) (v 5)) <|
        .need (lt (v 5) (ln (ce 0 (v 1) (v 4)))) <|
        ask s_FixOk [(ce 0 (ce 0 (v 1) (v 4)) (v 5))] <|
        .ite (nt (fn s_FixOk 0 [(ce 0 (ce 0 (v 1) (v 4)) (v 5))]))
        (.ret [ff])
        (.again 0 [(v 4), (ad (v 5) (n 1))]))
       (.again 1 [(ad (v 4) (n 1))])))
    (.ret [tt]))

/-- spec.SwingStep -/
def s_SwingStep : Nat := 21
def t_s_SwingStep : T :=
  ask s_l11Rows [(v 1)] <|
  ask s_Learn [(v 0), .nil, (n 0), ff, (n 0)] <|
  ask s_SwingOk [(v 0), (v 1), (v 2)] <|
  .ask (nt (nt (fn s_SwingOk 0 [(v 0), (v 1), (v 2)]))) s_FixOk [(v 6)] <|
  .need (ro (nt (fn s_SwingOk 0 [(v 0), (v 1), (v 2)])) (nt (nt (fn s_SwingOk 0 [(v 0), (v 1), (v 2)])))) <|
  .ask (nt (it (nt (fn s_SwingOk 0 [(v 0), (v 1), (v 2)])) tt (nt (fn s_FixOk 0 [(v 6)])))) s_FixOk [(v 7)] <|
  .need (ro (it (nt (fn s_SwingOk 0 [(v 0), (v 1), (v 2)])) tt (nt (fn s_FixOk 0 [(v 6)]))) (nt (it (nt (fn s_SwingOk 0 [(v 0), (v 1), (v 2)])) tt (nt (fn s_FixOk 0 [(v 6)]))))) <|
  .need (ro (it (it (nt (fn s_SwingOk 0 [(v 0), (v 1), (v 2)])) tt (nt (fn s_FixOk 0 [(v 6)]))) tt (nt (fn s_FixOk 0 [(v 7)]))) (nt (it (it (nt (fn s_SwingOk 0 [(v 0), (v 1), (v 2)])) tt (nt (fn s_FixOk 0 [(v 6)]))) tt (nt (fn s_FixOk 0 [(v 7)]))))) <|
  .need (ro (it (it (it (nt (fn s_SwingOk 0 [(v 0), (v 1), (v 2)])) tt (nt (fn s_FixOk 0 [(v 6)]))) tt (nt (fn s_FixOk 0 [(v 7)]))) tt (le (n 1000000) (v 2))) (nt (it (it (it (nt (fn s_SwingOk 0 [(v 0), (v 1), (v 2)])) tt (nt (fn s_FixOk 0 [(v 6)]))) tt (nt (fn s_FixOk 0 [(v 7)]))) tt (le (n 1000000) (v 2))))) <|
  .ite (it (it (it (it (nt (fn s_SwingOk 0 [(v 0), (v 1), (v 2)])) tt (nt (fn s_FixOk 0 [(v 6)]))) tt (nt (fn s_FixOk 0 [(v 7)]))) tt (le (n 1000000) (v 2))) tt (nt (eq (ln (v 3)) (ln (v 0)))))
  (.ret [(fn s_Learn 0 [(v 0), .nil, (n 0), ff, (n 0)]), (fn s_l11Rows 0 [(v 1)]), (v 2), ff])
  (.loop 8 [(n 0), ff, .nil] <|
    .ite (lt (v 8) (ln (v 0)))
    (.need (le (n 0) (v 8)) <|
     .need (lt (v 8) (ln (v 3))) <|
     .need (le (n 0) (v 8)) <|
     .need (lt (v 8) (ln (v 0))) <|
     .ite (nt (eq (ln (ce 0 (v 3) (v 8))) (ln (ce 3 (v 0) (v 8)))))
     (.ret [(fn s_Learn 0 [(v 0), .nil, (n 0), ff, (n 0)]), (fn s_l11Rows 0 [(v 1)]), (v 2), ff])
     (.loop 11 [(v 8), (n 0), (v 9), (v 10), .nil] <|
       .need (le (n 0) (v 11)) <|
       .need (lt (v 11) (ln (v 0))) <|
       .ite (lt (v 12) (ln (ce 3 (v 0) (v 11))))
       (.need (le (n 0) (v 11)) <|
        .need (lt (v 11) (ln (v 1))) <|
        .need (le (n 0) (v 12)) <|
        .need (lt (v 12) (ln (ce 0 (v 1) (v 11)))) <|
        ask s_FixMul [(v 7), (ce 0 (ce 0 (v 1) (v 11)) (v 12))] <|
        .need (le (n 0) (v 11)) <|
        .need (lt (v 11) (ln (v 3))) <|
        .need (le (n 0) (v 12)) <|
        .need (lt (v 12) (ln (ce 0 (v 3) (v 11)))) <|
        ask s_FixAdd [(fn s_FixMul 0 [(v 7), (ce 0 (ce 0 (v 1) (v 11)) (v 12))]), (ce 0 (ce 0 (v 3) (v 11)) (v 12))] <|
        .need (le (ln (ct (v 15) (ap (.mk 1) [(fn s_FixAdd 0 [(fn s_FixMul 0 [(v 7), (ce 0 (ce 0 (v 1) (v 11)) (v 12))]), (ce 0 (ce 0 (v 3) (v 11)) (v 12))])]))) (n 274877906944)) <|
        .need (ro (v 13) (nt (v 13))) <|
        .need (ro (it (v 13) tt (fn s_FixMul 1 [(v 7), (ce 0 (ce 0 (v 1) (v 11)) (v 12))])) (nt (it (v 13) tt (fn s_FixMul 1 [(v 7), (ce 0 (ce 0 (v 1) (v 11)) (v 12))])))) <|
        .again 0 [(v 11), (ad (v 12) (n 1)), (it (it (v 13) tt (fn s_FixMul 1 [(v 7), (ce 0 (ce 0 (v 1) (v 11)) (v 12))])) tt (fn s_FixAdd 1 [(fn s_FixMul 0 [(v 7), (ce 0 (ce 0 (v 1) (v 11)) (v 12))]), (ce 0 (ce 0 (v 3) (v 11)) (v 12))])), (v 14), (ct (v 15) (ap (.mk 1) [(fn s_FixAdd 0 [(fn s_FixMul 0 [(v 7), (ce 0 (ce 0 (v 1) (v 11)) (v 12))]), (ce 0 (ce 0 (v 3) (v 11)) (v 12))])]))])
       (.need (le (ln (ct (v 14) (ap (.mk 1) [(v 15)]))) (n 274877906944)) <|
        .again 1 [(ad (v 11) (n 1)), (v 13), (ct (v 14) (ap (.mk 1) [(v 15)]))])))
    (ask s_Learn [(v 0), (v 10), (n 0), ff, (v 6)] <|
     .need (ro (v 9) (nt (v 9))) <|
     .ret [(fn s_Learn 0 [(v 0), (v 10), (n 0), ff, (v 6)]), (v 10), (ad (v 2) (n 1)), (it (v 9) tt (fn s_Learn 1 [(v 0), (v 10), (n 0), ff, (v 6)]))]))

/-- spec.l24Swing -/
def s_l24Swing : Nat := 100
def t_s_l24Swing : T :=
  ask s_l6Model [(v 0), (v 1), (v 2)] <|
  ask s_l6Batch [(v 0), (fn s_l6Model 2 [(v 0), (v 1), (v 2)]), (fn s_l6Model 3 [(v 0), (v 1), (v 2)]), (fn s_l6Model 0 [(v 0), (v 1), (v 2)])] <|
  ask s_Sequential [(fn s_l6Model 0 [(v 0), (v 1), (v 2)]), (fn s_l6Batch 0 [(v 0), (fn s_l6Model 2 [(v 0), (v 1), (v 2)]), (fn s_l6Model 3 [(v 0), (v 1), (v 2)]), (fn s_l6Model 0 [(v 0), (v 1), (v 2)])])] <|
  ask s_SwingNew [(fn s_l6Model 0 [(v 0), (v 1), (v 2)])] <|
  ask s_l1Below [(v 0), (fn s_l6Batch 2 [(v 0), (fn s_l6Model 2 [(v 0), (v 1), (v 2)]), (fn s_l6Model 3 [(v 0), (v 1), (v 2)]), (fn s_l6Model 0 [(v 0), (v 1), (v 2)])]), (fn s_l6Batch 3 [(v 0), (fn s_l6Model 2 [(v 0), (v 1), (v 2)]), (fn s_l6Model 3 [(v 0), (v 1), (v 2)]), (fn s_l6Model 0 [(v 0), (v 1), (v 2)])]), (n 3)] <|
  .loop 3 [(fn s_l1Below 0 [(v 0), (fn s_l6Batch 2 [(v 0), (fn s_l6Model 2 [(v 0), (v 1), (v 2)]), (fn s_l6Model 3 [(v 0), (v 1), (v 2)]), (fn s_l6Model 0 [(v 0), (v 1), (v 2)])]), (fn s_l6Batch 3 [(v 0), (fn s_l6Model 2 [(v 0), (v 1), (v 2)]), (fn s_l6Model 3 [(v 0), (v 1), (v 2)]), (fn s_l6Model 0 [(v 0), (v 1), (v 2)])]), (n 3)]), (fn s_SwingNew 1 [(fn s_l6Model 0 [(v 0), (v 1), (v 2)])]), (fn s_SwingNew 0 [(fn s_l6Model 0 [(v 0), (v 1), (v 2)])]), (fn s_l6Model 0 [(v 0), (v 1), (v 2)])] <|
   .ite (lt (n 0) (v 3))
   (ask s_SwingStep [(v 6), (v 5), (v 4), (fn s_Sequential 0 [(fn s_l6Model 0 [(v 0), (v 1), (v 2)]), (fn s_l6Batch 0 [(v 0), (fn s_l6Model 2 [(v 0), (v 1), (v 2)]), (fn s_l6Model 3 [(v 0), (v 1), (v 2)]), (fn s_l6Model 0 [(v 0), (v 1), (v 2)])])]), (fn s_Sequential 1 [(fn s_l6Model 0 [(v 0), (v 1), (v 2)]), (fn s_l6Batch 0 [(v 0), (fn s_l6Model 2 [(v 0), (v 1), (v 2)]), (fn s_l6Model 3 [(v 0), (v 1), (v 2)]), (fn s_l6Model 0 [(v 0), (v 1), (v 2)])])]), (fn s_Sequential 2 [(fn s_l6Model 0 [(v 0), (v 1), (v 2)]), (fn s_l6Batch 0 [(v 0), (fn s_l6Model 2 [(v 0), (v 1), (v 2)]), (fn s_l6Model 3 [(v 0), (v 1), (v 2)]), (fn s_l6Model 0 [(v 0), (v 1), (v 2)])])]), (n 4096), (n 32768)] <|
    .again 0 [(sb (v 3) (n 1)), (fn s_SwingStep 2 [(v 6), (v 5), (v 4), (fn s_Sequential 0 [(fn s_l6Model 0 [(v 0), (v 1), (v 2)]), (fn s_l6Batch 0 [(v 0), (fn s_l6Model 2 [(v 0), (v 1), (v 2)]), (fn s_l6Model 3 [(v 0), (v 1), (v 2)]), (fn s_l6Model 0 [(v 0), (v 1), (v 2)])])]), (fn s_Sequential 1 [(fn s_l6Model 0 [(v 0), (v 1), (v 2)]), (fn s_l6Batch 0 [(v 0), (fn s_l6Model 2 [(v 0), (v 1), (v 2)]), (fn s_l6Model 3 [(v 0), (v 1), (v 2)]), (fn s_l6Model 0 [(v 0), (v 1), (v 2)])])]), (fn s_Sequential 2 [(fn s_l6Model 0 [(v 0), (v 1), (v 2)]), (fn s_l6Batch 0 [(v 0), (fn s_l6Model 2 [(v 0), (v 1), (v 2)]), (fn s_l6Model 3 [(v 0), (v 1), (v 2)]), (fn s_l6Model 0 [(v 0), (v 1), (v 2)])])]), (n 4096), (n 32768)]), (fn s_SwingStep 1 [(v 6), (v 5), (v 4), (fn s_Sequential 0 [(fn s_l6Model 0 [(v 0), (v 1), (v 2)]), (fn s_l6Batch 0 [(v 0), (fn s_l6Model 2 [(v 0), (v 1), (v 2)]), (fn s_l6Model 3 [(v 0), (v 1), (v 2)]), (fn s_l6Model 0 [(v 0), (v 1), (v 2)])])]), (fn s_Sequential 1 [(fn s_l6Model 0 [(v 0), (v 1), (v 2)]), (fn s_l6Batch 0 [(v 0), (fn s_l6Model 2 [(v 0), (v 1), (v 2)]), (fn s_l6Model 3 [(v 0), (v 1), (v 2)]), (fn s_l6Model 0 [(v 0), (v 1), (v 2)])])]), (fn s_Sequential 2 [(fn s_l6Model 0 [(v 0), (v 1), (v 2)]), (fn s_l6Batch 0 [(v 0), (fn s_l6Model 2 [(v 0), (v 1), (v 2)]), (fn s_l6Model 3 [(v 0), (v 1), (v 2)]), (fn s_l6Model 0 [(v 0), (v 1), (v 2)])])]), (n 4096), (n 32768)]), (fn s_SwingStep 0 [(v 6), (v 5), (v 4), (fn s_Sequential 0 [(fn s_l6Model 0 [(v 0), (v 1), (v 2)]), (fn s_l6Batch 0 [(v 0), (fn s_l6Model 2 [(v 0), (v 1), (v 2)]), (fn s_l6Model 3 [(v 0), (v 1), (v 2)]), (fn s_l6Model 0 [(v 0), (v 1), (v 2)])])]), (fn s_Sequential 1 [(fn s_l6Model 0 [(v 0), (v 1), (v 2)]), (fn s_l6Batch 0 [(v 0), (fn s_l6Model 2 [(v 0), (v 1), (v 2)]), (fn s_l6Model 3 [(v 0), (v 1), (v 2)]), (fn s_l6Model 0 [(v 0), (v 1), (v 2)])])]), (fn s_Sequential 2 [(fn s_l6Model 0 [(v 0), (v 1), (v 2)]), (fn s_l6Batch 0 [(v 0), (fn s_l6Model 2 [(v 0), (v 1), (v 2)]), (fn s_l6Model 3 [(v 0), (v 1), (v 2)]), (fn s_l6Model 0 [(v 0), (v 1), (v 2)])])]), (n 4096), (n 32768)])])
   (ask s_l1Below [(v 0), (fn s_l1Below 2 [(v 0), (fn s_l6Batch 2 [(v 0), (fn s_l6Model 2 [(v 0), (v 1), (v 2)]), (fn s_l6Model 3 [(v 0), (v 1), (v 2)]), (fn s_l6Model 0 [(v 0), (v 1), (v 2)])]), (fn s_l6Batch 3 [(v 0), (fn s_l6Model 2 [(v 0), (v 1), (v 2)]), (fn s_l6Model 3 [(v 0), (v 1), (v 2)]), (fn s_l6Model 0 [(v 0), (v 1), (v 2)])]), (n 3)]), (fn s_l1Below 3 [(v 0), (fn s_l6Batch 2 [(v 0), (fn s_l6Model 2 [(v 0), (v 1), (v 2)]), (fn s_l6Model 3 [(v 0), (v 1), (v 2)]), (fn s_l6Model 0 [(v 0), (v 1), (v 2)])]), (fn s_l6Batch 3 [(v 0), (fn s_l6Model 2 [(v 0), (v 1), (v 2)]), (fn s_l6Model 3 [(v 0), (v 1), (v 2)]), (fn s_l6Model 0 [(v 0), (v 1), (v 2)])]), (n 3)]), (n 14)] <|
    .ite (eq (fn s_l1Below 0 [(v 0), (fn s_l1Below 2 [(v 0), (fn s_l6Batch 2 [(v 0), (fn s_l6Model 2 [(v 0), (v 1), (v 2)]), (fn s_l6Model 3 [(v 0), (v 1), (v 2)]), (fn s_l6Model 0 [(v 0), (v 1), (v 2)])]), (fn s_l6Batch 3 [(v 0), (fn s_l6Model 2 [(v 0), (v 1), (v 2)]), (fn s_l6Model 3 [(v 0), (v 1), (v 2)]), (fn s_l6Model 0 [(v 0), (v 1), (v 2)])]), (n 3)]), (fn s_l1Below 3 [(v 0), (fn s_l6Batch 2 [(v 0), (fn s_l6Model 2 [(v 0), (v 1), (v 2)]), (fn s_l6Model 3 [(v 0), (v 1), (v 2)]), (fn s_l6Model 0 [(v 0), (v 1), (v 2)])]), (fn s_l6Batch 3 [(v 0), (fn s_l6Model 2 [(v 0), (v 1), (v 2)]), (fn s_l6Model 3 [(v 0), (v 1), (v 2)]), (fn s_l6Model 0 [(v 0), (v 1), (v 2)])]), (n 3)]), (n 14)]) (n 0))
    (ask s_l1PickInt [(v 0), (fn s_l1Below 2 [(v 0), (fn s_l1Below 2 [(v 0), (fn s_l6Batch 2 [(v 0), (fn s_l6Model 2 [(v 0), (v 1), (v 2)]), (fn s_l6Model 3 [(v 0), (v 1), (v 2)]), (fn s_l6Model 0 [(v 0), (v 1), (v 2)])]), (fn s_l6Batch 3 [(v 0), (fn s_l6Model 2 [(v 0), (v 1), (v 2)]), (fn s_l6Model 3 [(v 0), (v 1), (v 2)]), (fn s_l6Model 0 [(v 0), (v 1), (v 2)])]), (n 3)]), (fn s_l1Below 3 [(v 0), (fn s_l6Batch 2 [(v 0), (fn s_l6Model 2 [(v 0), (v 1), (v 2)]), (fn s_l6Model 3 [(v 0), (v 1), (v 2)]), (fn s_l6Model 0 [(v 0), (v 1), (v 2)])]), (fn s_l6Batch 3 [(v 0), (fn s_l6Model 2 [(v 0), (v 1), (v 2)]), (fn s_l6Model 3 [(v 0), (v 1), (v 2)]), (fn s_l6Model 0 [(v 0), (v 1), (v 2)])]), (n 3)]), (n 14)]), (fn s_l1Below 3 [(v 0), (fn s_l1Below 2 [(v 0), (fn s_l6Batch 2 [(v 0), (fn s_l6Model 2 [(v 0), (v 1), (v 2)]), (fn s_l6Model 3 [(v 0), (v 1), (v 2)]), (fn s_l6Model 0 [(v 0), (v 1), (v 2)])]), (fn s_l6Batch 3 [(v 0), (fn s_l6Model 2 [(v 0), (v 1), (v 2)]), (fn s_l6Model 3 [(v 0), (v 1), (v 2)]), (fn s_l6Model 0 [(v 0), (v 1), (v 2)])]), (n 3)]), (fn s_l1Below 3 [(v 0), (fn s_l6Batch 2 [(v 0), (fn s_l6Model 2 [(v 0), (v 1), (v 2)]), (fn s_l6Model 3 [(v 0), (v 1), (v 2)]), (fn s_l6Model 0 [(v 0), (v 1), (v 2)])]), (fn s_l6Batch 3 [(v 0), (fn s_l6Model 2 [(v 0), (v 1), (v 2)]), (fn s_l6Model 3 [(v 0), (v 1), (v 2)]), (fn s_l6Model 0 [(v 0), (v 1), (v 2)])]), (n 3)]), (n 14)]), (ap (.mk 1) [(n (-1)), (n 1000000)])] <|
     .ret [(v 6), (v 5), (fn s_l1PickInt 0 [(v 0), (fn s_l1Below 2 [(v 0), (fn s_l1Below 2 [(v 0), (fn s_l6Batch 2 [(v 0), (fn s_l6Model 2 [(v 0), (v 1), (v 2)]), (fn s_l6Model 3 [(v 0), (v 1), (v 2)]), (fn s_l6Model 0 [(v 0), (v 1), (v 2)])]), (fn s_l6Batch 3 [(v 0), (fn s_l6Model 2 [(v 0), (v 1), (v 2)]), (fn s_l6Model 3 [(v 0), (v 1), (v 2)]), (fn s_l6Model 0 [(v 0), (v 1), (v 2)])]), (n 3)]), (fn s_l1Below 3 [(v 0), (fn s_l6Batch 2 [(v 0), (fn s_l6Model 2 [(v 0), (v 1), (v 2)]), (fn s_l6Model 3 [(v 0), (v 1), (v 2)]), (fn s_l6Model 0 [(v 0), (v 1), (v 2)])]), (fn s_l6Batch 3 [(v 0), (fn s_l6Model 2 [(v 0), (v 1), (v 2)]), (fn s_l6Model 3 [(v 0), (v 1), (v 2)]), (fn s_l6Model 0 [(v 0), (v 1), (v 2)])]), (n 3)]), (n 14)]), (fn s_l1Below 3 [(v 0), (fn s_l1Below 2 [(v 0), (fn s_l6Batch 2 [(v 0), (fn s_l6Model 2 [(v 0), (v 1), (v 2)]), (fn s_l6Model 3 [(v 0), (v 1), (v 2)]), (fn s_l6Model 0 [(v 0), (v 1), (v 2)])]), (fn s_l6Batch 3 [(v 0), (fn s_l6Model 2 [(v 0), (v 1), (v 2)]), (fn s_l6Model 3 [(v 0), (v 1), (v 2)]), (fn s_l6Model 0 [(v 0), (v 1), (v 2)])]), (n 3)]), (fn s_l1Below 3 [(v 0), (fn s_l6Batch 2 [(v 0), (fn s_l6Model 2 [(v 0), (v 1), (v 2)]), (fn s_l6Model 3 [(v 0), (v 1), (v 2)]), (fn s_l6Model 0 [(v 0), (v 1), (v 2)])]), (fn s_l6Batch 3 [(v 0), (fn s_l6Model 2 [(v 0), (v 1), (v 2)]), (fn s_l6Model 3 [(v 0), (v 1), (v 2)]), (fn s_l6Model 0 [(v 0), (v 1), (v 2)])]), (n 3)]), (n 14)]), (ap (.mk 1) [(n (-1)), (n 1000000)])]), (fn s_Sequential 0 [(fn s_l6Model 0 [(v 0), (v 1), (v 2)]), (fn s_l6Batch 0 [(v 0), (fn s_l6Model 2 [(v 0), (v 1), (v 2)]), (fn s_l6Model 3 [(v 0), (v 1), (v 2)]), (fn s_l6Model 0 [(v 0), (v 1), (v 2)])])]), (fn s_Sequential 1 [(fn s_l6Model 0 [(v 0), (v 1), (v 2)]), (fn s_l6Batch 0 [(v 0), (fn s_l6Model 2 [(v 0), (v 1), (v 2)]), (fn s_l6Model 3 [(v 0), (v 1), (v 2)]), (fn s_l6Model 0 [(v 0), (v 1), (v 2)])])]), (fn s_Sequential 2 [(fn s_l6Model 0 [(v 0), (v 1), (v 2)]), (fn s_l6Batch 0 [(v 0), (fn s_l6Model 2 [(v 0), (v 1), (v 2)]), (fn s_l6Model 3 [(v 0), (v 1), (v 2)]), (fn s_l6Model 0 [(v 0), (v 1), (v 2)])])]), (v 0), (fn s_l1PickInt 2 [(v 0), (fn s_l1Below 2 [(v 0), (fn s_l1Below 2 [(v 0), (fn s_l6Batch 2 [(v 0), (fn s_l6Model 2 [(v 0), (v 1), (v 2)]), (fn s_l6Model 3 [(v 0), (v 1), (v 2)]), (fn s_l6Model 0 [(v 0), (v 1), (v 2)])]), (fn s_l6Batch 3 [(v 0), (fn s_l6Model 2 [(v 0), (v 1), (v 2)]), (fn s_l6Model 3 [(v 0), (v 1), (v 2)]), (fn s_l6Model 0 [(v 0), (v 1), (v 2)])]), (n 3)]), (fn s_l1Below 3 [(v 0), (fn s_l6Batch 2 [(v 0), (fn s_l6Model 2 [(v 0), (v 1), (v 2)]), (fn s_l6Model 3 [(v 0), (v 1), (v 2)]), (fn s_l6Model 0 [(v 0), (v 1), (v 2)])]), (fn s_l6Batch 3 [(v 0), (fn s_l6Model 2 [(v 0), (v 1), (v 2)]), (fn s_l6Model 3 [(v 0), (v 1), (v 2)]), (fn s_l6Model 0 [(v 0), (v 1), (v 2)])]), (n 3)]), (n 14)]), (fn s_l1Below 3 [(v 0), (fn s_l1Below 2 [(v 0), (fn s_l6Batch 2 [(v 0), (fn s_l6Model 2 [(v 0), (v 1), (v 2)]), (fn s_l6Model 3 [(v 0), (v 1), (v 2)]), (fn s_l6Model 0 [(v 0), (v 1), (v 2)])]), (fn s_l6Batch 3 [(v 0), (fn s_l6Model 2 [(v 0), (v 1), (v 2)]), (fn s_l6Model 3 [(v 0), (v 1), (v 2)]), (fn s_l6Model 0 [(v 0), (v 1), (v 2)])]), (n 3)]), (fn s_l1Below 3 [(v 0), (fn s_l6Batch 2 [(v 0), (fn s_l6Model 2 [(v 0), (v 1), (v 2)]), (fn s_l6Model 3 [(v 0), (v 1), (v 2)]), (fn s_l6Model 0 [(v 0), (v 1), (v 2)])]), (fn s_l6Batch 3 [(v 0), (fn s_l6Model 2 [(v 0), (v 1), (v 2)]), (fn s_l6Model 3 [(v 0), (v 1), (v 2)]), (fn s_l6Model 0 [(v 0), (v 1), (v 2)])]), (n 3)]), (n 14)]), (ap (.mk 1) [(n (-1)), (n 1000000)])]), (fn s_l1PickInt 3 [(v 0), (fn s_l1Below 2 [(v 0), (fn s_l1Below 2 [(v 0), (fn s_l6Batch 2 [(v 0), (fn s_l6Model 2 [(v 0), (v 1), (v 2)]), (fn s_l6Model 3 [(v 0), (v 1), (v 2)]), (fn s_l6Model 0 [(v 0), (v 1), (v 2)])]), (fn s_l6Batch 3 [(v 0), (fn s_l6Model 2 [(v 0), (v 1), (v 2)]), (fn s_l6Model 3 [(v 0), (v 1), (v 2)]), (fn s_l6Model 0 [(v 0), (v 1), (v 2)])]), (n 3)]), (fn s_l1Below 3 [(v 0), (fn s_l6Batch 2 [(v 0), (fn s_l6Model 2 [(v 0), (v 1), (v 2)]), (fn s_l6Model 3 [(v 0), (v 1), (v 2)]), (fn s_l6Model 0 [(v 0), (v 1), (v 2)])]), (fn s_l6Batch 3 [(v 0), (fn s_l6Model 2 [(v 0), (v 1), (v 2)]), (fn s_l6Model 3 [(v 0), (v 1), (v 2)]), (fn s_l6Model 0 [(v 0), (v 1), (v 2)])]), (n 3)]), (n 14)]), (fn s_l1Below 3 [(v 0), (fn s_l1Below 2 [(v 0), (fn s_l6Batch 2 [(v 0), (fn s_l6Model 2 [(v 0), (v 1), (v 2)]), (fn s_l6Model 3 [(v 0), (v 1), (v 2)]), (fn s_l6Model 0 [(v 0), (v 1), (v 2)])]), (fn s_l6Batch 3 [(v 0), (fn s_l6Model 2 [(v 0), (v 1), (v 2)]), (fn s_l6Model 3 [(v 0), (v 1), (v 2)]), (fn s_l6Model 0 [(v 0), (v 1), (v 2)])]), (n 3)]), (fn s_l1Below 3 [(v 0), (fn s_l6Batch 2 [(v 0), (fn s_l6Model 2 [(v 0), (v 1), (v 2)]), (fn s_l6Model 3 [(v 0), (v 1), (v 2)]), (fn s_l6Model 0 [(v 0), (v 1), (v 2)])]), (fn s_l6Batch 3 [(v 0), (fn s_l6Model 2 [(v 0), (v 1), (v 2)]), (fn s_l6Model 3 [(v 0), (v 1), (v 2)]), (fn s_l6Model 0 [(v 0), (v 1), (v 2)])]), (n 3)]), (n 14)]), (ap (.mk 1) [(n (-1)), (n 1000000)])])])
    (.ite (eq (fn s_l1Below 0 [(v 0), (fn s_l1Below 2 [(v 0), (fn s_l6Batch 2 [(v 0), (fn s_l6Model 2 [(v 0), (v 1), (v 2)]), (fn s_l6Model 3 [(v 0), (v 1), (v 2)]), (fn s_l6Model 0 [(v 0), (v 1), (v 2)])]), (fn s_l6Batch 3 [(v 0), (fn s_l6Model 2 [(v 0), (v 1), (v 2)]), (fn s_l6Model 3 [(v 0), (v 1), (v 2)]), (fn s_l6Model 0 [(v 0), (v 1), (v 2)])]), (n 3)]), (fn s_l1Below 3 [(v 0), (fn s_l6Batch 2 [(v 0), (fn s_l6Model 2 [(v 0), (v 1), (v 2)]), (fn s_l6Model 3 [(v 0), (v 1), (v 2)]), (fn s_l6Model 0 [(v 0), (v 1), (v 2)])]), (fn s_l6Batch 3 [(v 0), (fn s_l6Model 2 [(v 0), (v 1), (v 2)]), (fn s_l6Model 3 [(v 0), (v 1), (v 2)]), (fn s_l6Model 0 [(v 0), (v 1), (v 2)])]), (n 3)]), (n 14)]) (n 1))
     (.need (le (n 0) (n 0)) <|
      .need (le (n 0) (sb (ln (v 5)) (n 1))) <|
      .need (le (sb (ln (v 5)) (n 1)) (ln (v 5))) <|
      .ret [(v 6), (ap (.slice) [(v 5), (n 0), (sb (ln (v 5)) (n 1))]), (v 4), (fn s_Sequential 0 [(fn s_l6Model 0 [(v 0), (v 1), (v 2)]), (fn s_l6Batch 0 [(v 0), (fn s_l6Model 2 [(v 0), (v 1), (v 2)]), (fn s_l6Model 3 [(v 0), (v 1), (v 2)]), (fn s_l6Model 0 [(v 0), (v 1), (v 2)])])]), (fn s_Sequential 1 [(fn s_l6Model 0 [(v 0), (v 1), (v 2)]), (fn s_l6Batch 0 [(v 0), (fn s_l6Model 2 [(v 0), (v 1), (v 2)]), (fn s_l6Model 3 [(v 0), (v 1), (v 2)]), (fn s_l6Model 0 [(v 0), (v 1), (v 2)])])]), (fn s_Sequential 2 [(fn s_l6Model 0 [(v 0), (v 1), (v 2)]), (fn s_l6Batch 0 [(v 0), (fn s_l6Model 2 [(v 0), (v 1), (v 2)]), (fn s_l6Model 3 [(v 0), (v 1), (v 2)]), (fn s_l6Model 0 [(v 0), (v 1), (v 2)])])]), (v 0), (fn s_l1Below 2 [(v 0), (fn s_l1Below 2 [(v 0), (fn s_l6Batch 2 [(v 0), (fn s_l6Model 2 [(v 0), (v 1), (v 2)]), (fn s_l6Model 3 [(v 0), (v 1), (v 2)]), (fn s_l6Model 0 [(v 0), (v 1), (v 2)])]), (fn s_l6Batch 3 [(v 0), (fn s_l6Model 2 [(v 0), (v 1), (v 2)]), (fn s_l6Model 3 [(v 0), (v 1), (v 2)]), (fn s_l6Model 0 [(v 0), (v 1), (v 2)])]), (n 3)]), (fn s_l1Below 3 [(v 0), (fn s_l6Batch 2 [(v 0), (fn s_l6Model 2 [(v 0), (v 1), (v 2)]), (fn s_l6Model 3 [(v 0), (v 1), (v 2)]), (fn s_l6Model 0 [(v 0), (v 1), (v 2)])]), (fn s_l6Batch 3 [(v 0), (fn s_l6Model 2 [(v 0), (v 1), (v 2)]), (fn s_l6Model 3 [(v 0), (v 1), (v 2)]), (fn s_l6Model 0 [(v 0), (v 1), (v 2)])]), (n 3)]), (n 14)]), (fn s_l1Below 3 [(v 0), (fn s_l1Below 2 [(v 0), (fn s_l6Batch 2 [(v 0), (fn s_l6Model 2 [(v 0), (v 1), (v 2)]), (fn s_l6Model 3 [(v 0), (v 1), (v 2)]), (fn s_l6Model 0 [(v 0), (v 1), (v 2)])]), (fn s_l6Batch 3 [(v 0), (fn s_l6Model 2 [(v 0), (v 1), (v 2)]), (fn s_l6Model 3 [(v 0), (v 1), (v 2)]), (fn s_l6Model 0 [(v 0), (v 1), (v 2)])]), (n 3)]), (fn s_l1Below 3 [(v 0), (fn s_l6Batch 2 [(v 0), (fn s_l6Model 2 [(v 0), (v 1), (v 2)]), (fn s_l6Model 3 [(v 0), (v 1), (v 2)]), (fn s_l6Model 0 [(v 0), (v 1), (v 2)])]), (fn s_l6Batch 3 [(v 0), (fn s_l6Model 2 [(v 0), (v 1), (v 2)]), (fn s_l6Model 3 [(v 0), (v 1), (v 2)]), (fn s_l6Model 0 [(v 0), (v 1), (v 2)])]), (n 3)]), (n 14)])])
     (.ite (eq (fn s_l1Below 0 [(v 0), (fn s_l1Below 2 [(v 0), (fn s_l6Batch 2 [(v 0), (fn s_l6Model 2 [(v 0), (v 1), (v 2)]), (fn s_l6Model 3 [(v 0), (v 1), (v 2)]), (fn s_l6Model 0 [(v 0), (v 1), (v 2)])]), (fn s_l6Batch 3 [(v 0), (fn s_l6Model 2 [(v 0), (v 1), (v 2)]), (fn s_l6Model 3 [(v 0), (v 1), (v 2)]), (fn s_l6Model 0 [(v 0), (v 1), (v 2)])]), (n 3)]), (fn s_l1Below 3 [(v 0), (fn s_l6Batch 2 [(v 0), (fn s_l6Model 2 [(v 0), (v 1), (v 2)]), (fn s_l6Model 3 [(v 0), (v 1), (v 2)]), (fn s_l6Model 0 [(v 0), (v 1), (v 2)])]), (fn s_l6Batch 3 [(v 0), (fn s_l6Model 2 [(v 0), (v 1), (v 2)]), (fn s_l6Model 3 [(v 0), (v 1), (v 2)]), (fn s_l6Model 0 [(v 0), (v 1), (v 2)])]), (n 3)]), (n 14)]) (n 2))
      (.need (le (n 0) (n 0)) <|
       .need (le (n 0) (sb (ln (fn s_Sequential 0 [(fn s_l6Model 0 [(v 0), (v 1), (v 2)]), (fn s_l6Batch 0 [(v 0), (fn s_l6Model 2 [(v 0), (v 1), (v 2)]), (fn s_l6Model 3 [(v 0), (v 1), (v 2)]), (fn s_l6Model 0 [(v 0), (v 1), (v 2)])])])) (n 1))) <|
       .need (le (sb (ln (fn s_Sequential 0 [(fn s_l6Model 0 [(v 0), (v 1), (v 2)]), (fn s_l6Batch 0 [(v 0), (fn s_l6Model 2 [(v 0), (v 1), (v 2)]), (fn s_l6Model 3 [(v 0), (v 1), (v 2)]), (fn s_l6Model 0 [(v 0), (v 1), (v 2)])])])) (n 1)) (ln (fn s_Sequential 0 [(fn s_l6Model 0 [(v 0), (v 1), (v 2)]), (fn s_l6Batch 0 [(v 0), (fn s_l6Model 2 [(v 0), (v 1), (v 2)]), (fn s_l6Model 3 [(v 0), (v 1), (v 2)]), (fn s_l6Model 0 [(v 0), (v 1), (v 2)])])]))) <|
       .ret [(v 6), (v 5), (v 4), (ap (.slice) [(fn s_Sequential 0 [(fn s_l6Model 0 [(v 0), (v 1), (v 2)]), (fn s_l6Batch 0 [(v 0), (fn s_l6Model 2 [(v 0), (v 1), (v 2)]), (fn s_l6Model 3 [(v 0), (v 1), (v 2)]), (fn s_l6Model 0 [(v 0), (v 1), (v 2)])])]), (n 0), (sb (ln (fn s_Sequential 0 [(fn s_l6Model 0 [(v 0), (v 1), (v 2)]), (fn s_l6Batch 0 [(v 0), (fn s_l6Model 2 [(v 0), (v 1), (v 2)]), (fn s_l6Model 3 [(v 0), (v 1), (v 2)]), (fn s_l6Model 0 [(v 0), (v 1), (v 2)])])])) (n 1))]), (fn s_Sequential 1 [(fn s_l6Model 0 [(v 0), (v 1), (v 2)]), (fn s_l6Batch 0 [(v 0), (fn s_l6Model 2 [(v 0), (v 1), (v 2)]), (fn s_l6Model 3 [(v 0), (v 1), (v 2)]), (fn s_l6Model 0 [(v 0), (v 1), (v 2)])])]), (fn s_Sequential 2 [(fn s_l6Model 0 [(v 0), (v 1), (v 2)]), (fn s_l6Batch 0 [(v 0), (fn s_l6Model 2 [(v 0), (v 1), (v 2)]), (fn s_l6Model 3 [(v 0), (v 1), (v 2)]), (fn s_l6Model 0 [(v 0), (v 1), (v 2)])])]), (v 0), (fn s_l1Below 2 [(v 0), (fn s_l1Below 2 [(v 0), (fn s_l6Batch 2 [(v 0), (fn s_l6Model 2 [(v 0), (v 1), (v 2)]), (fn s_l6Model 3 [(v 0), (v 1), (v 2)]), (fn s_l6Model 0 [(v 0), (v 1), (v 2)])]), (fn s_l6Batch 3 [(v 0), (fn s_l6Model 2 [(v 0), (v 1), (v 2)]), (fn s_l6Model 3 [(v 0), (v 1), (v 2)]), (fn s_l6Model 0 [(v 0), (v 1), (v 2)])]), (n 3)]), (fn s_l1Below 3 [(v 0), (fn s_l6Batch 2 [(v 0), (fn s_l6Model 2 [(v 0), (v 1), (v 2)]), (fn s_l6Model 3 [(v 0), (v 1), (v 2)]), (fn s_l6Model 0 [(v 0), (v 1), (v 2)])]), (fn s_l6Batch 3 [(v 0), (fn s_l6Model 2 [(v 0), (v 1), (v 2)]), (fn s_l6Model 3 [(v 0), (v 1), (v 2)]), (fn s_l6Model 0 [(v 0), (v 1), (v 2)])]), (n 3)]), (n 14)]), (fn s_l1Below 3 [(v 0), (fn s_l1Below 2 [(v 0), (fn s_l6Batch 2 [(v 0), (fn s_l6Model 2 [(v 0), (v 1), (v 2)]), (fn s_l6Model 3 [(v 0), (v 1), (v 2)]), (fn s_l6Model 0 [(v 0), (v 1), (v 2)])]), (fn s_l6Batch 3 [(v 0), (fn s_l6Model 2 [(v 0), (v 1), (v 2)]), (fn s_l6Model 3 [(v 0), (v 1), (v 2)]), (fn s_l6Model 0 [(v 0), (v 1), (v 2)])]), (n 3)]), (fn s_l1Below 3 [(v 0), (fn s_l6Batch 2 [(v 0), (fn s_l6Model 2 [(v 0), (v 1), (v 2)]), (fn s_l6Model 3 [(v 0), (v 1), (v 2)]), (fn s_l6Model 0 [(v 0), (v 1), (v 2)])]), (fn s_l6Batch 3 [(v 0), (fn s_l6Model 2 [(v 0), (v 1), (v 2)]), (fn s_l6Model 3 [(v 0), (v 1), (v 2)]), (fn s_l6Model 0 [(v 0), (v 1), (v 2)])]), (n 3)]), (n 14)])])
      (.ite (eq (fn s_l1Below 0 [(v 0), (fn s_l1Below 2 [(v 0), (fn s_l6Batch 2 [(v 0), (fn s_l6Model 2 [(v 0), (v 1), (v 2)]), (fn s_l6Model 3 [(v 0), (v 1), (v 2)]), (fn s_l6Model 0 [(v 0), (v 1), (v 2)])]), (fn s_l6Batch 3 [(v 0), (fn s_l6Model 2 [(v 0), (v 1), (v 2)]), (fn s_l6Model 3 [(v 0), (v 1), (v 2)]), (fn s_l6Model 0 [(v 0), (v 1), (v 2)])]), (n 3)]), (fn s_l1Below 3 [(v 0), (fn s_l6Batch 2 [(v 0), (fn s_l6Model 2 [(v 0), (v 1), (v 2)]), (fn s_l6Model 3 [(v 0), (v 1), (v 2)]), (fn s_l6Model 0 [(v 0), (v 1), (v 2)])]), (fn s_l6Batch 3 [(v 0), (fn s_l6Model 2 [(v 0), (v 1), (v 2)]), (fn s_l6Model 3 [(v 0), (v 1), (v 2)]), (fn s_l6Model 0 [(v 0), (v 1), (v 2)])]), (n 3)]), (n 14)]) (n 3))
       (.need (le (n 0) (n 0)) <|
        .need (lt (n 0) (ln (v 6))) <|
        .ret [(ap (.set 0) [(v 6), (n 0), (n 9)]), (v 5), (v 4), (fn s_Sequential 0 [(fn s_l6Model 0 [(v 0), (v 1), (v 2)]), (fn s_l6Batch 0 [(v 0), (fn s_l6Model 2 [(v 0), (v 1), (v 2)]), (fn s_l6Model 3 [(v 0), (v 1), (v 2)]), (fn s_l6Model 0 [(v 0), (v 1), (v 2)])])]), (fn s_Sequential 1 [(fn s_l6Model 0 [(v 0), (v 1), (v 2)]), (fn s_l6Batch 0 [(v 0), (fn s_l6Model 2 [(v 0), (v 1), (v 2)]), (fn s_l6Model 3 [(v 0), (v 1), (v 2)]), (fn s_l6Model 0 [(v 0), (v 1), (v 2)])])]), (fn s_Sequential 2 [(fn s_l6Model 0 [(v 0), (v 1), (v 2)]), (fn s_l6Batch 0 [(v 0), (fn s_l6Model 2 [(v 0), (v 1), (v 2)]), (fn s_l6Model 3 [(v 0), (v 1), (v 2)]), (fn s_l6Model 0 [(v 0), (v 1), (v 2)])])]), (v 0), (fn s_l1Below 2 [(v 0), (fn s_l1Below 2 [(v 0), (fn s_l6Batch 2 [(v 0), (fn s_l6Model 2 [(v 0), (v 1), (v 2)]), (fn s_l6Model 3 [(v 0), (v 1), (v 2)]), (fn s_l6Model 0 [(v 0), (v 1), (v 2)])]), (fn s_l6Batch 3 [(v 0), (fn s_l6Model 2 [(v 0), (v 1), (v 2)]), (fn s_l6Model 3 [(v 0), (v 1), (v 2)]), (fn s_l6Model 0 [(v 0), (v 1), (v 2)])]), (n 3)]), (fn s_l1Below 3 [(v 0), (fn s_l6Batch 2 [(v 0), (fn s_l6Model 2 [(v 0), (v 1), (v 2)]), (fn s_l6Model 3 [(v 0), (v 1), (v 2)]), (fn s_l6Model 0 [(v 0), (v 1), (v 2)])]), (fn s_l6Batch 3 [(v 0), (fn s_l6Model 2 [(v 0), (v 1), (v 2)]), (fn s_l6Model 3 [(v 0), (v 1), (v 2)]), (fn s_l6Model 0 [(v 0), (v 1), (v 2)])]), (n 3)]), (n 14)]), (fn s_l1Below 3 [(v 0), (fn s_l1Below 2 [(v 0), (fn s_l6Batch 2 [(v 0), (fn s_l6Model 2 [(v 0), (v 1), (v 2)]), (fn s_l6Model 3 [(v 0), (v 1), (v 2)]), (fn s_l6Model 0 [(v 0), (v 1), (v 2)])]), (fn s_l6Batch 3 [(v 0), (fn s_l6Model 2 [(v 0), (v 1), (v 2)]), (fn s_l6Model 3 [(v 0), (v 1), (v 2)]), (fn s_l6Model 0 [(v 0), (v 1), (v 2)])]), (n 3)]), (fn s_l1Below 3 [(v 0), (fn s_l6Batch 2 [(v 0), (fn s_l6Model 2 [(v 0), (v 1), (v 2)]), (fn s_l6Model 3 [(v 0), (v 1), (v 2)]), (fn s_l6Model 0 [(v 0), (v 1), (v 2)])]), (fn s_l6Batch 3 [(v 0), (fn s_l6Model 2 [(v 0), (v 1), (v 2)]), (fn s_l6Model 3 [(v 0), (v 1), (v 2)]), (fn s_l6Model 0 [(v 0), (v 1), (v 2)])]), (n 3)]), (n 14)])])
       (.ret [(v 6), (v 5), (v 4), (fn s_Sequential 0 [(fn s_l6Model 0 [(v 0), (v 1), (v 2)]), (fn s_l6Batch 0 [(v 0), (fn s_l6Model 2 [(v 0), (v 1), (v 2)]), (fn s_l6Model 3 [(v 0), (v 1), (v 2)]), (fn s_l6Model 0 [(v 0), (v 1), (v 2)])])]), (fn s_Sequential 1 [(fn s_l6Model 0 [(v 0), (v 1), (v 2)]), (fn s_l6Batch 0 [(v 0), (fn s_l6Model 2 [(v 0), (v 1), (v 2)]), (fn s_l6Model 3 [(v 0), (v 1), (v 2)]), (fn s_l6Model 0 [(v 0), (v 1), (v 2)])])]), (fn s_Sequential 2 [(fn s_l6Model 0 [(v 0), (v 1), (v 2)]), (fn s_l6Batch 0 [(v 0), (fn s_l6Model 2 [(v 0), (v 1), (v 2)]), (fn s_l6Model 3 [(v 0), (v 1), (v 2)]), (fn s_l6Model 0 [(v 0), (v 1), (v 2)])])]), (v 0), (fn s_l1Below 2 [(v 0), (fn s_l1Below 2 [(v 0), (fn s_l6Batch 2 [(v 0), (fn s_l6Model 2 [(v 0), (v 1), (v 2)]), (fn s_l6Model 3 [(v 0), (v 1), (v 2)]), (fn s_l6Model 0 [(v 0), (v 1), (v 2)])]), (fn s_l6Batch 3 [(v 0), (fn s_l6Model 2 [(v 0), (v 1), (v 2)]), (fn s_l6Model 3 [(v 0), (v 1), (v 2)]), (fn s_l6Model 0 [(v 0), (v 1), (v 2)])]), (n 3)]), (fn s_l1Below 3 [(v 0), (fn s_l6Batch 2 [(v 0), (fn s_l6Model 2 [(v 0), (v 1), (v 2)]), (fn s_l6Model 3 [(v 0), (v 1), (v 2)]), (fn s_l6Model 0 [(v 0), (v 1), (v 2)])]), (fn s_l6Batch 3 [(v 0), (fn s_l6Model 2 [(v 0), (v 1), (v 2)]), (fn s_l6Model 3 [(v 0), (v 1), (v 2)]), (fn s_l6Model 0 [(v 0), (v 1), (v 2)])]), (n 3)]), (n 14)]), (fn s_l1Below 3 [(v 0), (fn s_l1Below 2 [(v 0), (fn s_l6Batch 2 [(v 0), (fn s_l6Model 2 [(v 0), (v 1), (v 2)]), (fn s_l6Model 3 [(v 0), (v 1), (v 2)]), (fn s_l6Model 0 [(v 0), (v 1), (v 2)])]), (fn s_l6Batch 3 [(v 0), (fn s_l6Model 2 [(v 0), (v 1), (v 2)]), (fn s_l6Model 3 [(v 0), (v 1), (v 2)]), (fn s_l6Model 0 [(v 0), (v 1), (v 2)])]), (n 3)]), (fn s_l1Below 3 [(v 0), (fn s_l6Batch 2 [(v 0), (fn s_l6Model 2 [(v 0), (v 1), (v 2)]), (fn s_l6Model 3 [(v 0), (v 1), (v 2)]), (fn s_l6Model 0 [(v 0), (v 1), (v 2)])]), (fn s_l6Batch 3 [(v 0), (fn s_l6Model 2 [(v 0), (v 1), (v 2)]), (fn s_l6Model 3 [(v 0), (v 1), (v 2)]), (fn s_l6Model 0 [(v 0), (v 1), (v 2)])]), (n 3)]), (n 14)])])))))

/-- spec.DrawSwingStep -/
def s_DrawSwingStep : Nat := 41
def t_s_DrawSwingStep : T :=
  ask s_l1New [(v 0)] <|
  ask s_l24Swing [(fn s_l1New 0 [(v 0)]), (fn s_l1New 1 [(v 0)]), (fn s_l1New 2 [(v 0)])] <|
  ask s_l1PickInt [(fn s_l1New 0 [(v 0)]), (fn s_l24Swing 7 [(fn s_l1New 0 [(v 0)]), (fn s_l1New 1 [(v 0)]), (fn s_l1New 2 [(v 0)])]), (fn s_l24Swing 8 [(fn s_l1New 0 [(v 0)]), (fn s_l1New 1 [(v 0)]), (fn s_l1New 2 [(v 0)])]), (ap (.mk 1) [(n 655), (n 65536), (n 0), (n 2147483648), (n (-65536))])] <|
  ask s_l1PickInt [(fn s_l1New 0 [(v 0)]), (fn s_l1PickInt 2 [(fn s_l1New 0 [(v 0)]), (fn s_l24Swing 7 [(fn s_l1New 0 [(v 0)]), (fn s_l1New 1 [(v 0)]), (fn s_l1New 2 [(v 0)])]), (fn s_l24Swing 8 [(fn s_l1New 0 [(v 0)]), (fn s_l1New 1 [(v 0)]), (fn s_l1New 2 [(v 0)])]), (ap (.mk 1) [(n 655), (n 65536), (n 0), (n 2147483648), (n (-65536))])]), (fn s_l1PickInt 3 [(fn s_l1New 0 [(v 0)]), (fn s_l24Swing 7 [(fn s_l1New 0 [(v 0)]), (fn s_l1New 1 [(v 0)]), (fn s_l1New 2 [(v 0)])]), (fn s_l24Swing 8 [(fn s_l1New 0 [(v 0)]), (fn s_l1New 1 [(v 0)]), (fn s_l1New 2 [(v 0)])]), (ap (.mk 1) [(n 655), (n 65536), (n 0), (n 2147483648), (n (-65536))])]), (ap (.mk 1) [(n 0), (n 32768), (n 65536), (n (-2147483648)), (n 58982)])] <|
  .ret [(fn s_l24Swing 0 [(fn s_l1New 0 [(v 0)]), (fn s_l1New 1 [(v 0)]), (fn s_l1New 2 [(v 0)])]), (fn s_l24Swing 1 [(fn s_l1New 0 [(v 0)]), (fn s_l1New 1 [(v 0)]), (fn s_l1New 2 [(v 0)])]), (fn s_l24Swing 2 [(fn s_l1New 0 [(v 0)]), (fn s_l1New 1 [(v 0)]), (fn s_l1New 2 [(v 0)])]), (fn s_l24Swing 3 [(fn s_l1New 0 [(v 0)]), (fn s_l1New 1 [(v 0)]), (fn s_l1New 2 [(v 0)])]), (fn s_l24Swing 4 [(fn s_l1New 0 [(v 0)]), (fn s_l1New 1 [(v 0)]), (fn s_l1New 2 [(v 0)])]), (fn s_l24Swing 5 [(fn s_l1New 0 [(v 0)]), (fn s_l1New 1 [(v 0)]), (fn s_l1New 2 [(v 0)])]), (fn s_l1PickInt 0 [(fn s_l1New 0 [(v 0)]), (fn s_l24Swing 7 [(fn s_l1New 0 [(v 0)]), (fn s_l1New 1 [(v 0)]), (fn s_l1New 2 [(v 0)])]), (fn s_l24Swing 8 [(fn s_l1New 0 [(v 0)]), (fn s_l1New 1 [(v 0)]), (fn s_l1New 2 [(v 0)])]), (ap (.mk 1) [(n 655), (n 65536), (n 0), (n 2147483648), (n (-65536))])]), (fn s_l1PickInt 0 [(fn s_l1New 0 [(v 0)]), (fn s_l1PickInt 2 [(fn s_l1New 0 [(v 0)]), (fn s_l24Swing 7 [(fn s_l1New 0 [(v 0)]), (fn s_l1New 1 [(v 0)]), (fn s_l1New 2 [(v 0)])]), (fn s_l24Swing 8 [(fn s_l1New 0 [(v 0)]), (fn s_l1New 1 [(v 0)]), (fn s_l1New 2 [(v 0)])]), (ap (.mk 1) [(n 655), (n 65536), (n 0), (n 2147483648), (n (-65536))])]), (fn s_l1PickInt 3 [(fn s_l1New 0 [(v 0)]), (fn s_l24Swing 7 [(fn s_l1New 0 [(v 0)]), (fn s_l1New 1 [(v 0)]), (fn s_l1New 2 [(v 0)])]), (fn s_l24Swing 8 [(fn s_l1New 0 [(v 0)]), (fn s_l1New 1 [(v 0)]), (fn s_l1New 2 [(v 0)])]), (ap (.mk 1) [(n 655), (n 65536), (n 0), (n 2147483648), (n (-65536))])]), (ap (.mk 1) [(n 0), (n 32768), (n 65536), (n (-2147483648)), (n 58982)])])]

/-- impl.copyInts -/
def i_copyInts : Nat := 89
def t_i_copyInts : T :=
  .need (le (ln (ct .nil (v 0))) (n 274877906944)) <|
  .ret [(ct .nil (v 0))]

/-- impl.copyRows -/
def i_copyRows : Nat := 75
def t_i_copyRows : T :=
  .loop 1 [(n 0), .nil] <|
   .ite (lt (v 1) (ln (v 0)))
   (.need (le (n 0) (v 1)) <|
    .need (lt (v 1) (ln (v 0))) <|
    ask i_copyInts [(ce 0 (v 0) (v 1))] <|
    .need (le (ln (ct (v 2) (ap (.mk 1) [(fn i_copyInts 0 [(ce 0 (v 0) (v 1))])]))) (n 274877906944)) <|
    .again 0 [(ad (v 1) (n 1)), (ct (v 2) (ap (.mk 1) [(fn i_copyInts 0 [(ce 0 (v 0) (v 1))])]))])
   (.ret [(v 2)])

/-- impl.OpSize -/
def i_OpSize : Nat := 152
def t_i_OpSize : T :=
  .need (ro (lt (v 1) (n 1)) (nt (lt (v 1) (n 1)))) <|
  .need (ro (it (lt (v 1) (n 1)) tt (lt (n 6) (v 1))) (nt (it (lt (v 1) (n 1)) tt (lt (n 6) (v 1))))) <|
  .need (ro (it (it (lt (v 1) (n 1)) tt (lt (n 6) (v 1))) tt (lt (v 2) (n 1))) (nt (it (it (lt (v 1) (n 1)) tt (lt (n 6) (v 1))) tt (lt (v 2) (n 1))))) <|
  .ite (it (it (it (lt (v 1) (n 1)) tt (lt (n 6) (v 1))) tt (lt (v 2) (n 1))) tt (lt (n 6) (v 2)))
  (.ret [(n 0)])
  (.ite (eq (v 0) (n 1))
   (.ite (eq (v 0) (n 1))
    (.ret [(mu (v 1) (v 2))])
    (.ite (eq (v 0) (n 2))
     (.ret [(v 1)])
     (.ite (eq (v 0) (n 4))
      (.ret [(n 1)])
      (.ret [(n 0)]))))
   (.ite (eq (v 0) (n 5))
    (.ret [(mu (v 1) (v 2))])
    (.ite (eq (v 0) (n 2))
     (.ret [(v 1)])
     (.ite (eq (v 0) (n 4))
      (.ret [(n 1)])
      (.ret [(n 0)])))))

/-- impl.FixOk -/
def i_FixOk : Nat := 59
def t_i_FixOk : T :=
  .need (ro (nt (le (n (-2147483647)) (v 0))) (le (n (-2147483647)) (v 0))) <|
  .ret [(it (le (n (-2147483647)) (v 0)) (le (v 0) (n 2147483647)) ff)]

/-- impl.allFix -/
def i_allFix : Nat := 102
def t_i_allFix : T :=
  .loop 1 [(n 0)] <|
   .ite (lt (v 1) (ln (v 0)))
   (.need (le (n 0) (v 1)) <|
    .need (lt (v 1) (ln (v 0))) <|
    ask i_FixOk [(ce 0 (v 0) (v 1))] <|
    .ite (nt (fn i_FixOk 0 [(ce 0 (v 0) (v 1))]))
    (.ret [ff])
    (.again 0 [(ad (v 1) (n 1))]))
   (.ret [tt])

/-- impl.OpOk -/
def i_OpOk : Nat := 112
def t_i_OpOk : T :=
  .need (ro (lt (v 0) (n 1)) (nt (lt (v 0) (n 1)))) <|
  .need (ro (it (lt (v 0) (n 1)) tt (lt (n 5) (v 0))) (nt (it (lt (v 0) (n 1)) tt (lt (n 5) (v 0))))) <|
  .need (ro (it (it (lt (v 0) (n 1)) tt (lt (n 5) (v 0))) tt (lt (v 1) (n 1))) (nt (it (it (lt (v 0) (n 1)) tt (lt (n 5) (v 0))) tt (lt (v 1) (n 1))))) <|
  .need (ro (it (it (it (lt (v 0) (n 1)) tt (lt (n 5) (v 0))) tt (lt (v 1) (n 1))) tt (lt (n 6) (v 1))) (nt (it (it (it (lt (v 0) (n 1)) tt (lt (n 5) (v 0))) tt (lt (v 1) (n 1))) tt (lt (n 6) (v 1))))) <|
  .need (ro (it (it (it (it (lt (v 0) (n 1)) tt (lt (n 5) (v 0))) tt (lt (v 1) (n 1))) tt (lt (n 6) (v 1))) tt (lt (v 2) (n 1))) (nt (it (it (it (it (lt (v 0) (n 1)) tt (lt (n 5) (v 0))) tt (lt (v 1) (n 1))) tt (lt (n 6) (v 1))) tt (lt (v 2) (n 1))))) <|
  .ite (it (it (it (it (it (lt (v 0) (n 1)) tt (lt (n 5) (v 0))) tt (lt (v 1) (n 1))) tt (lt (n 6) (v 1))) tt (lt (v 2) (n 1))) tt (lt (n 6) (v 2)))
  (.ret [ff])
  (.need (ro (nt (nt (eq (v 0) (n 1)))) (nt (eq (v 0) (n 1)))) <|
   .ite (it (nt (eq (v 0) (n 1))) (nt (eq (v 1) (v 2))) ff)
   (.ret [ff])
   (ask i_OpSize [(v 0), (v 1), (v 2), (v 3)] <|
    .ask (eq (ln (v 3)) (fn i_OpSize 0 [(v 0), (v 1), (v 2), (v 3)])) i_allFix [(v 3)] <|
    .need (ro (nt (eq (ln (v 3)) (fn i_OpSize 0 [(v 0), (v 1), (v 2), (v 3)]))) (eq (ln (v 3)) (fn i_OpSize 0 [(v 0), (v 1), (v 2), (v 3)]))) <|
    .ret [(it (eq (ln (v 3)) (fn i_OpSize 0 [(v 0), (v 1), (v 2), (v 3)])) (fn i_allFix 0 [(v 3)]) ff)]))

/-- impl.ModelOk -/
def i_ModelOk : Nat := 58
def t_i_ModelOk : T :=
  .need (ro (lt (ln (v 0)) (n 1)) (nt (lt (ln (v 0)) (n 1)))) <|
  .ite (it (lt (ln (v 0)) (n 1)) tt (lt (n 8) (ln (v 0))))
  (.ret [ff])
  (.loop 1 [(n 0)] <|
    .ite (lt (v 1) (ln (v 0)))
    (.need (le (n 0) (v 1)) <|
     .need (lt (v 1) (ln (v 0))) <|
     ask i_OpOk [(ce 0 (v 0) (v 1)), (ce 1 (v 0) (v 1)), (ce 2 (v 0) (v 1)), (ce 3 (v 0) (v 1))] <|
     .need (ro (nt (an (nt (nt (fn i_OpOk 0 [(ce 0 (v 0) (v 1)), (ce 1 (v 0) (v 1)), (ce 2 (v 0) (v 1)), (ce 3 (v 0) (v 1))]))) (lt (n 0) (v 1)))) (le (n 0) (sb (v 1) (n 1)))) <|
     .need (ro (nt (an (nt (nt (fn i_OpOk 0 [(ce 0 (v 0) (v 1)), (ce 1 (v 0) (v 1)), (ce 2 (v 0) (v 1)), (ce 3 (v 0) (v 1))]))) (lt (n 0) (v 1)))) (lt (sb (v 1) (n 1)) (ln (v 0)))) <|
     .need (ro (nt (nt (nt (fn i_OpOk 0 [(ce 0 (v 0) (v 1)), (ce 1 (v 0) (v 1)), (ce 2 (v 0) (v 1)), (ce 3 (v 0) (v 1))])))) (ro (nt (lt (n 0) (v 1))) (an (nt (nt (fn i_OpOk 0 [(ce 0 (v 0) (v 1)), (ce 1 (v 0) (v 1)), (ce 2 (v 0) (v 1)), (ce 3 (v 0) (v 1))]))) (lt (n 0) (v 1))))) <|
     .need (ro (nt (fn i_OpOk 0 [(ce 0 (v 0) (v 1)), (ce 1 (v 0) (v 1)), (ce 2 (v 0) (v 1)), (ce 3 (v 0) (v 1))])) (nt (nt (fn i_OpOk 0 [(ce 0 (v 0) (v 1)), (ce 1 (v 0) (v 1)), (ce 2 (v 0) (v 1)), (ce 3 (v 0) (v 1))])))) <|
     .ite (it (nt (fn i_OpOk 0 [(ce 0 (v 0) (v 1)), (ce 1 (v 0) (v 1)), (ce 2 (v 0) (v 1)), (ce 3 (v 0) (v 1))])) tt (it (lt (n 0) (v 1)) (nt (eq (ce 2 (v 0) (sb (v 1) (n 1))) (ce 1 (v 0) (v 1)))) ff))
     (.ret [ff])
     (.again 0 [(ad (v 1) (n 1))]))
    (.ret [tt]))

/-- impl.gradsFit -/
def i_gradsFit : Nat := 60
def t_i_gradsFit : T :=
  .ite (nt (eq (ln (v 1)) (ln (v 0))))
  (.ret [ff])
  (.loop 2 [(n 0)] <|
    .ite (lt (v 2) (ln (v 0)))
    (.need (le (n 0) (v 2)) <|
     .need (lt (v 2) (ln (v 0))) <|
     .need (le (n 0) (v 2)) <|
     .need (lt (v 2) (ln (v 1))) <|
     .ite (nt (eq (ln (ce 0 (v 1) (v 2))) (ln (ce 3 (v 0) (v 2)))))
     (.ret [ff])
     (.again 0 [(ad (v 2) (n 1))]))
    (.ret [tt]))

/-- impl.SwingOk -/
def i_SwingOk : Nat := 44
def t_i_SwingOk : T :=
  ask i_ModelOk [(v 0)] <|
  .need (ro (nt (fn i_ModelOk 0 [(v 0)])) (nt (nt (fn i_ModelOk 0 [(v 0)])))) <|
  .ask (nt (it (nt (fn i_ModelOk 0 [(v 0)])) tt (lt (v 2) (n 0)))) i_gradsFit [(v 0), (v 1)] <|
  .need (ro (it (nt (fn i_ModelOk 0 [(v 0)])) tt (lt (v 2) (n 0))) (nt (it (nt (fn i_ModelOk 0 [(v 0)])) tt (lt (v 2) (n 0))))) <|
  .ite (it (it (nt (fn i_ModelOk 0 [(v 0)])) tt (lt (v 2) (n 0))) tt (nt (fn i_gradsFit 0 [(v 0), (v 1)])))
  (.ret [ff])
  (.loop 3 [(n 0)] <|
    .ite (lt (v 3) (ln (v 1)))
    (.need (le (n 0) (v 3)) <|
     .need (lt (v 3) (ln (v 1))) <|
     ask i_allFix [(ce 0 (v 1) (v 3))] <|
     .ite (nt (fn i_allFix 0 [(ce 0 (v 1) (v 3))]))
     (.ret [ff])
     (.again 0 [(ad (v 3) (n 1))]))
    (.ret [tt]))

/-- impl.copyOps -/
def i_copyOps : Nat := 111
def t_i_copyOps : T :=
  .loop 1 [(n 0), .nil] <|
   .ite (lt (v 1) (ln (v 0)))
   (.need (le (n 0) (v 1)) <|
    .need (lt (v 1) (ln (v 0))) <|
    ask i_copyInts [(ce 3 (v 0) (v 1))] <|
    .need (le (ln (ct (v 2) (ap (.mk 4) [(ce 0 (v 0) (v 1)), (ce 1 (v 0) (v 1)), (ce 2 (v 0) (v 1)), (fn i_copyInts 0 [(ce 3 (v 0) (v 1))])]))) (n 274877906944)) <|
    .again 0 [(ad (v 1) (n 1)), (ct (v 2) (ap (.mk 4) [(ce 0 (v 0) (v 1)), (ce 1 (v 0) (v 1)), (ce 2 (v 0) (v 1)), (fn i_copyInts 0 [(ce 3 (v 0) (v 1))])]))])
   (.ret [(v 2)])

/-- impl.copyModel -/
def i_copyModel : Nat := 57
def t_i_copyModel : T :=
  ask i_copyOps [(v 0)] <|
  .ret [(fn i_copyOps 0 [(v 0)])]

/-- impl.clamp -/
def i_clamp : Nat := 114
def t_i_clamp : T :=
  .ret [(ap (.mn) [(ap (.mx) [(v 0), (n (-2147483647))]), (n 2147483647)])]

/-- impl.settle -/
def i_settle : Nat := 113
def t_i_settle : T :=
  ask i_clamp [(v 0)] <|
  ask i_FixOk [(v 0)] <|
  .ret [(fn i_clamp 0 [(v 0)]), (nt (fn i_FixOk 0 [(v 0)]))]

/-- impl.FixMul -/
def i_FixMul : Nat := 61
def t_i_FixMul : T :=
  ask i_clamp [(v 0)] <|
  ask i_clamp [(v 1)] <|
  .need (le (n 0) (n 16)) <|
  ask i_settle [(ap (.shr .i64) [(mu (fn i_clamp 0 [(v 0)]) (fn i_clamp 0 [(v 1)])), (n 16)])] <|
  .ret [(fn i_settle 0 [(ap (.shr .i64) [(mu (fn i_clamp 0 [(v 0)]) (fn i_clamp 0 [(v 1)])), (n 16)])]), (fn i_settle 1 [(ap (.shr .i64) [(mu (fn i_clamp 0 [(v 0)]) (fn i_clamp 0 [(v 1)])), (n 16)])])]

/-- impl.FixAdd -/
def i_FixAdd : Nat := 76
def t_i_FixAdd : T :=
  ask i_clamp [(v 0)] <|
  ask i_clamp [(v 1)] <|
  ask i_settle [(ad (fn i_clamp 0 [(v 0)]) (fn i_clamp 0 [(v 1)]))] <|
  .ret [(fn i_settle 0 [(ad (fn i_clamp 0 [(v 0)]) (fn i_clamp 0 [(v 1)]))]), (fn i_settle 1 [(ad (fn i_clamp 0 [(v 0)]) (fn i_clamp 0 [(v 1)]))])]

/-- impl.FixSub -/
def i_FixSub : Nat := 62
def t_i_FixSub : T :=
  ask i_clamp [(v 0)] <|
  ask i_clamp [(v 1)] <|
  ask i_settle [(sb (fn i_clamp 0 [(v 0)]) (fn i_clamp 0 [(v 1)]))] <|
  .ret [(fn i_settle 0 [(sb (fn i_clamp 0 [(v 0)]) (fn i_clamp 0 [(v 1)]))]), (fn i_settle 1 [(sb (fn i_clamp 0 [(v 0)]) (fn i_clamp 0 [(v 1)]))])]

/-- impl.Learn -/
def i_Learn : Nat := 15
def t_i_Learn : T :=
  ask i_copyModel [(v 0)] <|
  ask i_ModelOk [(v 0)] <|
  .ask (nt (nt (fn i_ModelOk 0 [(v 0)]))) i_FixOk [(v 4)] <|
  .need (ro (nt (fn i_ModelOk 0 [(v 0)])) (nt (nt (fn i_ModelOk 0 [(v 0)])))) <|
  .ask (nt (it (nt (fn i_ModelOk 0 [(v 0)])) tt (nt (fn i_FixOk 0 [(v 4)])))) i_gradsFit [(v 0), (v 1)] <|
  .need (ro (it (nt (fn i_ModelOk 0 [(v 0)])) tt (nt (fn i_FixOk 0 [(v 4)]))) (nt (it (nt (fn i_ModelOk 0 [(v 0)])) tt (nt (fn i_FixOk 0 [(v 4)]))))) <|
  .ite (it (it (nt (fn i_ModelOk 0 [(v 0)])) tt (nt (fn i_FixOk 0 [(v 4)]))) tt (nt (fn i_gradsFit 0 [(v 0), (v 1)])))
  (.ret [(fn i_copyModel 0 [(v 0)]), ff])
  (.loop 5 [(n 0), ff, (fn i_copyModel 0 [(v 0)])] <|
    .ite (lt (v 5) (ln (fn i_copyModel 0 [(v 0)])))
    (.need (le (n 0) (v 5)) <|
     .need (lt (v 5) (ln (v 7))) <|
     .loop 8 [(v 5), (v 5), (v 5), (ln (ce 3 (v 7) (v 5))), (n 0), (v 6), (v 7)] <|
      .ite (lt (v 12) (v 11))
      (.need (le (n 0) (v 9)) <|
       .need (lt (v 9) (ln (v 1))) <|
       .need (le (n 0) (v 12)) <|
       .need (lt (v 12) (ln (ce 0 (v 1) (v 9)))) <|
       ask i_FixMul [(v 4), (ce 0 (ce 0 (v 1) (v 9)) (v 12))] <|
       .need (le (n 0) (v 12)) <|
       .need (lt (v 12) (ln (ce 3 (v 14) (v 8)))) <|
       ask i_FixSub [(ce 0 (ce 3 (v 14) (v 8)) (v 12)), (fn i_FixMul 0 [(v 4), (ce 0 (ce 0 (v 1) (v 9)) (v 12))])] <|
       .need (le (n 0) (v 12)) <|
       .need (lt (v 12) (ln (ce 3 (v 14) (v 8)))) <|
       .need (ro (v 13) (nt (v 13))) <|
       .need (ro (it (v 13) tt (fn i_FixMul 1 [(v 4), (ce 0 (ce 0 (v 1) (v 9)) (v 12))])) (nt (it (v 13) tt (fn i_FixMul 1 [(v 4), (ce 0 (ce 0 (v 1) (v 9)) (v 12))])))) <|
       .again 0 [(v 8), (v 9), (v 10), (v 11), (ad (v 12) (n 1)), (it (it (v 13) tt (fn i_FixMul 1 [(v 4), (ce 0 (ce 0 (v 1) (v 9)) (v 12))])) tt (fn i_FixSub 1 [(ce 0 (ce 3 (v 14) (v 8)) (v 12)), (fn i_FixMul 0 [(v 4), (ce 0 (ce 0 (v 1) (v 9)) (v 12))])])), (ap (.setd 3 0) [(v 14), (v 8), (v 12), (fn i_FixSub 0 [(ce 0 (ce 3 (v 14) (v 8)) (v 12)), (fn i_FixMul 0 [(v 4), (ce 0 (ce 0 (v 1) (v 9)) (v 12))])])])])
      (.again 1 [(ad (v 10) (n 1)), (v 13), (v 14)]))
    (.ret [(v 7), (v 6)]))

/-- impl.SwingStep -/
def i_SwingStep : Nat := 25
def t_i_SwingStep : T :=
  ask i_copyRows [(v 1)] <|
  ask i_SwingOk [(v 0), (v 1), (v 2)] <|
  .ask (nt (nt (fn i_SwingOk 0 [(v 0), (v 1), (v 2)]))) i_FixOk [(v 6)] <|
  .need (ro (nt (fn i_SwingOk 0 [(v 0), (v 1), (v 2)])) (nt (nt (fn i_SwingOk 0 [(v 0), (v 1), (v 2)])))) <|
  .ask (nt (it (nt (fn i_SwingOk 0 [(v 0), (v 1), (v 2)])) tt (nt (fn i_FixOk 0 [(v 6)])))) i_FixOk [(v 7)] <|
  .need (ro (it (nt (fn i_SwingOk 0 [(v 0), (v 1), (v 2)])) tt (nt (fn i_FixOk 0 [(v 6)]))) (nt (it (nt (fn i_SwingOk 0 [(v 0), (v 1), (v 2)])) tt (nt (fn i_FixOk 0 [(v 6)]))))) <|
  .need (ro (it (it (nt (fn i_SwingOk 0 [(v 0), (v 1), (v 2)])) tt (nt (fn i_FixOk 0 [(v 6)]))) tt (nt (fn i_FixOk 0 [(v 7)]))) (nt (it (it (nt (fn i_SwingOk 0 [(v 0), (v 1), (v 2)])) tt (nt (fn i_FixOk 0 [(v 6)]))) tt (nt (fn i_FixOk 0 [(v 7)]))))) <|
  .ask (nt (it (it (it (nt (fn i_SwingOk 0 [(v 0), (v 1), (v 2)])) tt (nt (fn i_FixOk 0 [(v 6)]))) tt (nt (fn i_FixOk 0 [(v 7)]))) tt (le (n 1000000) (v 2)))) i_gradsFit [(v 0), (v 3)] <|
  .need (ro (it (it (it (nt (fn i_SwingOk 0 [(v 0), (v 1), (v 2)])) tt (nt (fn i_FixOk 0 [(v 6)]))) tt (nt (fn i_FixOk 0 [(v 7)]))) tt (le (n 1000000) (v 2))) (nt (it (it (it (nt (fn i_SwingOk 0 [(v 0), (v 1), (v 2)])) tt (nt (fn i_FixOk 0 [(v 6)]))) tt (nt (fn i_FixOk 0 [(v 7)]))) tt (le (n 1000000) (v 2))))) <|
  .ite (it (it (it (it (nt (fn i_SwingOk 0 [(v 0), (v 1), (v 2)])) tt (nt (fn i_FixOk 0 [(v 6)]))) tt (nt (fn i_FixOk 0 [(v 7)]))) tt (le (n 1000000) (v 2))) tt (nt (fn i_gradsFit 0 [(v 0), (v 3)])))
  (ask i_copyModel [(v 0)] <|
   .ret [(fn i_copyModel 0 [(v 0)]), (fn i_copyRows 0 [(v 1)]), (v 2), ff])
  (.loop 8 [(n 0), ff, (fn i_copyRows 0 [(v 1)])] <|
    .ite (lt (v 8) (ln (fn i_copyRows 0 [(v 1)])))
    (.need (le (n 0) (v 8)) <|
     .need (lt (v 8) (ln (v 10))) <|
     .loop 11 [(v 8), (v 8), (v 8), (ln (ce 0 (v 10) (v 8))), (n 0), (v 9), (v 10)] <|
      .ite (lt (v 15) (v 14))
      (.need (le (n 0) (v 15)) <|
       .need (lt (v 15) (ln (ce 0 (v 17) (v 11)))) <|
       ask i_FixMul [(v 7), (ce 0 (ce 0 (v 17) (v 11)) (v 15))] <|
       .need (le (n 0) (v 12)) <|
       .need (lt (v 12) (ln (v 3))) <|
       .need (le (n 0) (v 15)) <|
       .need (lt (v 15) (ln (ce 0 (v 3) (v 12)))) <|
       ask i_FixAdd [(fn i_FixMul 0 [(v 7), (ce 0 (ce 0 (v 17) (v 11)) (v 15))]), (ce 0 (ce 0 (v 3) (v 12)) (v 15))] <|
       .need (le (n 0) (v 15)) <|
       .need (lt (v 15) (ln (ce 0 (v 17) (v 11)))) <|
       .need (ro (v 16) (nt (v 16))) <|
       .need (ro (it (v 16) tt (fn i_FixMul 1 [(v 7), (ce 0 (ce 0 (v 17) (v 11)) (v 15))])) (nt (it (v 16) tt (fn i_FixMul 1 [(v 7), (ce 0 (ce 0 (v 17) (v 11)) (v 15))])))) <|
       .again 0 [(v 11), (v 12), (v 13), (v 14), (ad (v 15) (n 1)), (it (it (v 16) tt (fn i_FixMul 1 [(v 7), (ce 0 (ce 0 (v 17) (v 11)) (v 15))])) tt (fn i_FixAdd 1 [(fn i_FixMul 0 [(v 7), (ce 0 (ce 0 (v 17) (v 11)) (v 15))]), (ce 0 (ce 0 (v 3) (v 12)) (v 15))])), (ap (.setd 0 0) [(v 17), (v 11), (v 15), (fn i_FixAdd 0 [(fn i_FixMul 0 [(v 7), (ce 0 (ce 0 (v 17) (v 11)) (v 15))]), (ce 0 (ce 0 (v 3) (v 12)) (v 15))])])])
      (.again 1 [(ad (v 13) (n 1)), (v 16), (v 17)]))
    (ask i_Learn [(v 0), (v 10), (n 0), ff, (v 6)] <|
     .need (ro (v 9) (nt (v 9))) <|
     .ret [(fn i_Learn 0 [(v 0), (v 10), (n 0), ff, (v 6)]), (v 10), (ad (v 2) (n 1)), (it (v 9) tt (fn i_Learn 1 [(v 0), (v 10), (n 0), ff, (v 6)]))]))

/-- spec.SameVec -/
def s_SameVec : Nat := 101
def t_s_SameVec : T :=
  .ite (nt (eq (ln (v 0)) (ln (v 1))))
  (.ret [ff])
  (.loop 2 [(n 0)] <|
    .ite (lt (v 2) (ln (v 0)))
    (.need (le (n 0) (v 2)) <|
     .need (lt (v 2) (ln (v 0))) <|
     .need (le (n 0) (v 2)) <|
     .need (lt (v 2) (ln (v 1))) <|
     .ite (nt (eq (ce 0 (v 0) (v 2)) (ce 0 (v 1) (v 2))))
     (.ret [ff])
     (.again 0 [(ad (v 2) (n 1))]))
    (.ret [tt]))

/-- spec.SameOp -/
def s_SameOp : Nat := 63
def t_s_SameOp : T :=
  .need (ro (nt (eq (v 0) (v 4))) (eq (v 0) (v 4))) <|
  .need (ro (nt (it (eq (v 0) (v 4)) (eq (v 1) (v 5)) ff)) (it (eq (v 0) (v 4)) (eq (v 1) (v 5)) ff)) <|
  .ask (it (it (eq (v 0) (v 4)) (eq (v 1) (v 5)) ff) (eq (v 2) (v 6)) ff) s_SameVec [(v 3), (v 7)] <|
  .need (ro (nt (it (it (eq (v 0) (v 4)) (eq (v 1) (v 5)) ff) (eq (v 2) (v 6)) ff)) (it (it (eq (v 0) (v 4)) (eq (v 1) (v 5)) ff) (eq (v 2) (v 6)) ff)) <|
  .ret [(it (it (it (eq (v 0) (v 4)) (eq (v 1) (v 5)) ff) (eq (v 2) (v 6)) ff) (fn s_SameVec 0 [(v 3), (v 7)]) ff)]

/-- spec.SameModel -/
def s_SameModel : Nat := 16
def t_s_SameModel : T :=
  .ite (nt (eq (ln (v 0)) (ln (v 1))))
  (.ret [ff])
  (.loop 2 [(n 0)] <|
    .ite (lt (v 2) (ln (v 0)))
    (.need (le (n 0) (v 2)) <|
     .need (lt (v 2) (ln (v 0))) <|
     .need (le (n 0) (v 2)) <|
     .need (lt (v 2) (ln (v 1))) <|
     ask s_SameOp [(ce 0 (v 0) (v 2)), (ce 1 (v 0) (v 2)), (ce 2 (v 0) (v 2)), (ce 3 (v 0) (v 2)), (ce 0 (v 1) (v 2)), (ce 1 (v 1) (v 2)), (ce 2 (v 1) (v 2)), (ce 3 (v 1) (v 2))] <|
     .ite (nt (fn s_SameOp 0 [(ce 0 (v 0) (v 2)), (ce 1 (v 0) (v 2)), (ce 2 (v 0) (v 2)), (ce 3 (v 0) (v 2)), (ce 0 (v 1) (v 2)), (ce 1 (v 1) (v 2)), (ce 2 (v 1) (v 2)), (ce 3 (v 1) (v 2))]))
     (.ret [ff])
     (.again 0 [(ad (v 2) (n 1))]))
    (.ret [tt]))

/-- spec.SameRows -/
def s_SameRows : Nat := 42
def t_s_SameRows : T :=
  .ite (nt (eq (ln (v 0)) (ln (v 1))))
  (.ret [ff])
  (.loop 2 [(n 0)] <|
    .ite (lt (v 2) (ln (v 0)))
    (.need (le (n 0) (v 2)) <|
     .need (lt (v 2) (ln (v 0))) <|
     .need (le (n 0) (v 2)) <|
     .need (lt (v 2) (ln (v 1))) <|
     ask s_SameVec [(ce 0 (v 0) (v 2)), (ce 0 (v 1) (v 2))] <|
     .ite (nt (fn s_SameVec 0 [(ce 0 (v 0) (v 2)), (ce 0 (v 1) (v 2))]))
     (.ret [ff])
     (.again 0 [(ad (v 2) (n 1))]))
    (.ret [tt]))

/-- impl.ZeroGrads -/
def i_ZeroGrads : Nat := 103
def t_i_ZeroGrads : T :=
  ask i_ModelOk [(v 0)] <|
  .ite (nt (fn i_ModelOk 0 [(v 0)]))
  (.ret [.nil, (n 0), ff])
  (.loop 1 [(n 0), .nil] <|
    .ite (lt (v 1) (ln (v 0)))
    (.need (le (n 0) (v 1)) <|
     .need (lt (v 1) (ln (v 0))) <|
     .need (le (n 0) (ln (ce 3 (v 0) (v 1)))) <|
     .need (le (ln (ce 3 (v 0) (v 1))) (n 274877906944)) <|
     .need (le (ln (ct (v 2) (ap (.mk 1) [(ap (.rep) [(ln (ce 3 (v 0) (v 1))), (n 0)])]))) (n 274877906944)) <|
     .again 0 [(ad (v 1) (n 1)), (ct (v 2) (ap (.mk 1) [(ap (.rep) [(ln (ce 3 (v 0) (v 1))), (n 0)])]))])
    (.ret [(v 2), (n 0), ff]))

/-- impl.SwingNew -/
def i_SwingNew : Nat := 45
def t_i_SwingNew : T :=
  ask i_ZeroGrads [(v 0)] <|
  .ret [(fn i_ZeroGrads 0 [(v 0)]), (n 0)]

/-- laws.FnSwings -/
def w_FnSwings : Nat := 7
def t_w_FnSwings : T :=
  ask w_big [(v 0)] <|
  .ite (fn w_big 0 [(v 0)])
  (.ret [tt])
  (ask s_DrawSwingStep [(v 0)] <|
   ask i_SwingStep [(fn s_DrawSwingStep 0 [(v 0)]), (fn s_DrawSwingStep 1 [(v 0)]), (fn s_DrawSwingStep 2 [(v 0)]), (fn s_DrawSwingStep 3 [(v 0)]), (fn s_DrawSwingStep 4 [(v 0)]), (fn s_DrawSwingStep 5 [(v 0)]), (fn s_DrawSwingStep 6 [(v 0)]), (fn s_DrawSwingStep 7 [(v 0)])] <|
   ask s_SwingStep [(fn s_DrawSwingStep 0 [(v 0)]), (fn s_DrawSwingStep 1 [(v 0)]), (fn s_DrawSwingStep 2 [(v 0)]), (fn s_DrawSwingStep 3 [(v 0)]), (fn s_DrawSwingStep 4 [(v 0)]), (fn s_DrawSwingStep 5 [(v 0)]), (fn s_DrawSwingStep 6 [(v 0)]), (fn s_DrawSwingStep 7 [(v 0)])] <|
   ask s_SameModel [(fn i_SwingStep 0 [(fn s_DrawSwingStep 0 [(v 0)]), (fn s_DrawSwingStep 1 [(v 0)]), (fn s_DrawSwingStep 2 [(v 0)]), (fn s_DrawSwingStep 3 [(v 0)]), (fn s_DrawSwingStep 4 [(v 0)]), (fn s_DrawSwingStep 5 [(v 0)]), (fn s_DrawSwingStep 6 [(v 0)]), (fn s_DrawSwingStep 7 [(v 0)])]), (fn s_SwingStep 0 [(fn s_DrawSwingStep 0 [(v 0)]), (fn s_DrawSwingStep 1 [(v 0)]), (fn s_DrawSwingStep 2 [(v 0)]), (fn s_DrawSwingStep 3 [(v 0)]), (fn s_DrawSwingStep 4 [(v 0)]), (fn s_DrawSwingStep 5 [(v 0)]), (fn s_DrawSwingStep 6 [(v 0)]), (fn s_DrawSwingStep 7 [(v 0)])])] <|
   .need (ro (nt (fn s_SameModel 0 [(fn i_SwingStep 0 [(fn s_DrawSwingStep 0 [(v 0)]), (fn s_DrawSwingStep 1 [(v 0)]), (fn s_DrawSwingStep 2 [(v 0)]), (fn s_DrawSwingStep 3 [(v 0)]), (fn s_DrawSwingStep 4 [(v 0)]), (fn s_DrawSwingStep 5 [(v 0)]), (fn s_DrawSwingStep 6 [(v 0)]), (fn s_DrawSwingStep 7 [(v 0)])]), (fn s_SwingStep 0 [(fn s_DrawSwingStep 0 [(v 0)]), (fn s_DrawSwingStep 1 [(v 0)]), (fn s_DrawSwingStep 2 [(v 0)]), (fn s_DrawSwingStep 3 [(v 0)]), (fn s_DrawSwingStep 4 [(v 0)]), (fn s_DrawSwingStep 5 [(v 0)]), (fn s_DrawSwingStep 6 [(v 0)]), (fn s_DrawSwingStep 7 [(v 0)])])])) (nt (nt (fn s_SameModel 0 [(fn i_SwingStep 0 [(fn s_DrawSwingStep 0 [(v 0)]), (fn s_DrawSwingStep 1 [(v 0)]), (fn s_DrawSwingStep 2 [(v 0)]), (fn s_DrawSwingStep 3 [(v 0)]), (fn s_DrawSwingStep 4 [(v 0)]), (fn s_DrawSwingStep 5 [(v 0)]), (fn s_DrawSwingStep 6 [(v 0)]), (fn s_DrawSwingStep 7 [(v 0)])]), (fn s_SwingStep 0 [(fn s_DrawSwingStep 0 [(v 0)]), (fn s_DrawSwingStep 1 [(v 0)]), (fn s_DrawSwingStep 2 [(v 0)]), (fn s_DrawSwingStep 3 [(v 0)]), (fn s_DrawSwingStep 4 [(v 0)]), (fn s_DrawSwingStep 5 [(v 0)]), (fn s_DrawSwingStep 6 [(v 0)]), (fn s_DrawSwingStep 7 [(v 0)])])])))) <|
   .ask (nt (it (nt (fn s_SameModel 0 [(fn i_SwingStep 0 [(fn s_DrawSwingStep 0 [(v 0)]), (fn s_DrawSwingStep 1 [(v 0)]), (fn s_DrawSwingStep 2 [(v 0)]), (fn s_DrawSwingStep 3 [(v 0)]), (fn s_DrawSwingStep 4 [(v 0)]), (fn s_DrawSwingStep 5 [(v 0)]), (fn s_DrawSwingStep 6 [(v 0)]), (fn s_DrawSwingStep 7 [(v 0)])]), (fn s_SwingStep 0 [(fn s_DrawSwingStep 0 [(v 0)]), (fn s_DrawSwingStep 1 [(v 0)]), (fn s_DrawSwingStep 2 [(v 0)]), (fn s_DrawSwingStep 3 [(v 0)]), (fn s_DrawSwingStep 4 [(v 0)]), (fn s_DrawSwingStep 5 [(v 0)]), (fn s_DrawSwingStep 6 [(v 0)]), (fn s_DrawSwingStep 7 [(v 0)])])])) tt (nt (eq (fn i_SwingStep 2 [(fn s_DrawSwingStep 0 [(v 0)]), (fn s_DrawSwingStep 1 [(v 0)]), (fn s_DrawSwingStep 2 [(v 0)]), (fn s_DrawSwingStep 3 [(v 0)]), (fn s_DrawSwingStep 4 [(v 0)]), (fn s_DrawSwingStep 5 [(v 0)]), (fn s_DrawSwingStep 6 [(v 0)]), (fn s_DrawSwingStep 7 [(v 0)])]) (fn s_SwingStep 2 [(fn s_DrawSwingStep 0 [(v 0)]), (fn s_DrawSwingStep 1 [(v 0)]), (fn s_DrawSwingStep 2 [(v 0)]), (fn s_DrawSwingStep 3 [(v 0)]), (fn s_DrawSwingStep 4 [(v 0)]), (fn s_DrawSwingStep 5 [(v 0)]), (fn s_DrawSwingStep 6 [(v 0)]), (fn s_DrawSwingStep 7 [(v 0)])]))))) s_SameRows [(fn i_SwingStep 1 [(fn s_DrawSwingStep 0 [(v 0)]), (fn s_DrawSwingStep 1 [(v 0)]), (fn s_DrawSwingStep 2 [(v 0)]), (fn s_DrawSwingStep 3 [(v 0)]), (fn s_DrawSwingStep 4 [(v 0)]), (fn s_DrawSwingStep 5 [(v 0)]), (fn s_DrawSwingStep 6 [(v 0)]), (fn s_DrawSwingStep 7 [(v 0)])]), (fn s_SwingStep 1 [(fn s_DrawSwingStep 0 [(v 0)]), (fn s_DrawSwingStep 1 [(v 0)]), (fn s_DrawSwingStep 2 [(v 0)]), (fn s_DrawSwingStep 3 [(v 0)]), (fn s_DrawSwingStep 4 [(v 0)]), (fn s_DrawSwingStep 5 [(v 0)]), (fn s_DrawSwingStep 6 [(v 0)]), (fn s_DrawSwingStep 7 [(v 0)])])] <|
   .need (ro (it (nt (fn s_SameModel 0 [(fn i_SwingStep 0 [(fn s_DrawSwingStep 0 [(v 0)]), (fn s_DrawSwingStep 1 [(v 0)]), (fn s_DrawSwingStep 2 [(v 0)]), (fn s_DrawSwingStep 3 [(v 0)]), (fn s_DrawSwingStep 4 [(v 0)]), (fn s_DrawSwingStep 5 [(v 0)]), (fn s_DrawSwingStep 6 [(v 0)]), (fn s_DrawSwingStep 7 [(v 0)])]), (fn s_SwingStep 0 [(fn s_DrawSwingStep 0 [(v 0)]), (fn s_DrawSwingStep 1 [(v 0)]), (fn s_DrawSwingStep 2 [(v 0)]), (fn s_DrawSwingStep 3 [(v 0)]), (fn s_DrawSwingStep 4 [(v 0)]), (fn s_DrawSwingStep 5 [(v 0)]), (fn s_DrawSwingStep 6 [(v 0)]), (fn s_DrawSwingStep 7 [(v 0)])])])) tt (nt (eq (fn i_SwingStep 2 [(fn s_DrawSwingStep 0 [(v 0)]), (fn s_DrawSwingStep 1 [(v 0)]), (fn s_DrawSwingStep 2 [(v 0)]), (fn s_DrawSwingStep 3 [(v 0)]), (fn s_DrawSwingStep 4 [(v 0)]), (fn s_DrawSwingStep 5 [(v 0)]), (fn s_DrawSwingStep 6 [(v 0)]), (fn s_DrawSwingStep 7 [(v 0)])]) (fn s_SwingStep 2 [(fn s_DrawSwingStep 0 [(v 0)]), (fn s_DrawSwingStep 1 [(v 0)]), (fn s_DrawSwingStep 2 [(v 0)]), (fn s_DrawSwingStep 3 [(v 0)]), (fn s_DrawSwingStep 4 [(v 0)]), (fn s_DrawSwingStep 5 [(v 0)]), (fn s_DrawSwingStep 6 [(v 0)]), (fn s_DrawSwingStep 7 [(v 0)])])))) (nt (it (nt (fn s_SameModel 0 [(fn i_SwingStep 0 [(fn s_DrawSwingStep 0 [(v 0)]), (fn s_DrawSwingStep 1 [(v 0)]), (fn s_DrawSwingStep 2 [(v 0)]), (fn s_DrawSwingStep 3 [(v 0)]), (fn s_DrawSwingStep 4 [(v 0)]), (fn s_DrawSwingStep 5 [(v 0)]), (fn s_DrawSwingStep 6 [(v 0)]), (fn s_DrawSwingStep 7 [(v 0)])]), (fn s_SwingStep 0 [(fn s_DrawSwingStep 0 [(v 0)]), (fn s_DrawSwingStep 1 [(v 0)]), (fn s_DrawSwingStep 2 [(v 0)]), (fn s_DrawSwingStep 3 [(v 0)]), (fn s_DrawSwingStep 4 [(v 0)]), (fn s_DrawSwingStep 5 [(v 0)]), (fn s_DrawSwingStep 6 [(v 0)]), (fn s_DrawSwingStep 7 [(v 0)])])])) tt (nt (eq (fn i_SwingStep 2 [(fn s_DrawSwingStep 0 [(v 0)]), (fn s_DrawSwingStep 1 [(v 0)]), (fn s_DrawSwingStep 2 [(v 0)]), (fn s_DrawSwingStep 3 [(v 0)]), (fn s_DrawSwingStep 4 [(v 0)]), (fn s_DrawSwingStep 5 [(v 0)]), (fn s_DrawSwingStep 6 [(v 0)]), (fn s_DrawSwingStep 7 [(v 0)])]) (fn s_SwingStep 2 [(fn s_DrawSwingStep 0 [(v 0)]), (fn s_DrawSwingStep 1 [(v 0)]), (fn s_DrawSwingStep 2 [(v 0)]), (fn s_DrawSwingStep 3 [(v 0)]), (fn s_DrawSwingStep 4 [(v 0)]), (fn s_DrawSwingStep 5 [(v 0)]), (fn s_DrawSwingStep 6 [(v 0)]), (fn s_DrawSwingStep 7 [(v 0)])])))))) <|
   .need (ro (it (it (nt (fn s_SameModel 0 [(fn i_SwingStep 0 [(fn s_DrawSwingStep 0 [(v 0)]), (fn s_DrawSwingStep 1 [(v 0)]), (fn s_DrawSwingStep 2 [(v 0)]), (fn s_DrawSwingStep 3 [(v 0)]), (fn s_DrawSwingStep 4 [(v 0)]), (fn s_DrawSwingStep 5 [(v 0)]), (fn s_DrawSwingStep 6 [(v 0)]), (fn s_DrawSwingStep 7 [(v 0)])]), (fn s_SwingStep 0 [(fn s_DrawSwingStep 0 [(v 0)]), (fn s_DrawSwingStep 1 [(v 0)]), (fn s_DrawSwingStep 2 [(v 0)]), (fn s_DrawSwingStep 3 [(v 0)]), (fn s_DrawSwingStep 4 [(v 0)]), (fn s_DrawSwingStep 5 [(v 0)]), (fn s_DrawSwingStep 6 [(v 0)]), (fn s_DrawSwingStep 7 [(v 0)])])])) tt (nt (eq (fn i_SwingStep 2 [(fn s_DrawSwingStep 0 [(v 0)]), (fn s_DrawSwingStep 1 [(v 0)]), (fn s_DrawSwingStep 2 [(v 0)]), (fn s_DrawSwingStep 3 [(v 0)]), (fn s_DrawSwingStep 4 [(v 0)]), (fn s_DrawSwingStep 5 [(v 0)]), (fn s_DrawSwingStep 6 [(v 0)]), (fn s_DrawSwingStep 7 [(v 0)])]) (fn s_SwingStep 2 [(fn s_DrawSwingStep 0 [(v 0)]), (fn s_DrawSwingStep 1 [(v 0)]), (fn s_DrawSwingStep 2 [(v 0)]), (fn s_DrawSwingStep 3 [(v 0)]), (fn s_DrawSwingStep 4 [(v 0)]), (fn s_DrawSwingStep 5 [(v 0)]), (fn s_DrawSwingStep 6 [(v 0)]), (fn s_DrawSwingStep 7 [(v 0)])])))) tt (nt (fn s_SameRows 0 [(fn i_SwingStep 1 [(fn s_DrawSwingStep 0 [(v 0)]), (fn s_DrawSwingStep 1 [(v 0)]), (fn s_DrawSwingStep 2 [(v 0)]), (fn s_DrawSwingStep 3 [(v 0)]), (fn s_DrawSwingStep 4 [(v 0)]), (fn s_DrawSwingStep 5 [(v 0)]), (fn s_DrawSwingStep 6 [(v 0)]), (fn s_DrawSwingStep 7 [(v 0)])]), (fn s_SwingStep 1 [(fn s_DrawSwingStep 0 [(v 0)]), (fn s_DrawSwingStep 1 [(v 0)]), (fn s_DrawSwingStep 2 [(v 0)]), (fn s_DrawSwingStep 3 [(v 0)]), (fn s_DrawSwingStep 4 [(v 0)]), (fn s_DrawSwingStep 5 [(v 0)]), (fn s_DrawSwingStep 6 [(v 0)]), (fn s_DrawSwingStep 7 [(v 0)])])]))) (nt (it (it (nt (fn s_SameModel 0 [(fn i_SwingStep 0 [(fn s_DrawSwingStep 0 [(v 0)]), (fn s_DrawSwingStep 1 [(v 0)]), (fn s_DrawSwingStep 2 [(v 0)]), (fn s_DrawSwingStep 3 [(v 0)]), (fn s_DrawSwingStep 4 [(v 0)]), (fn s_DrawSwingStep 5 [(v 0)]), (fn s_DrawSwingStep 6 [(v 0)]), (fn s_DrawSwingStep 7 [(v 0)])]), (fn s_SwingStep 0 [(fn s_DrawSwingStep 0 [(v 0)]), (fn s_DrawSwingStep 1 [(v 0)]), (fn s_DrawSwingStep 2 [(v 0)]), (fn s_DrawSwingStep 3 [(v 0)]), (fn s_DrawSwingStep 4 [(v 0)]), (fn s_DrawSwingStep 5 [(v 0)]), (fn s_DrawSwingStep 6 [(v 0)]), (fn s_DrawSwingStep 7 [(v 0)])])])) tt (nt (eq (fn i_SwingStep 2 [(fn s_DrawSwingStep 0 [(v 0)]), (fn s_DrawSwingStep 1 [(v 0)]), (fn s_DrawSwingStep 2 [(v 0)]), (fn s_DrawSwingStep 3 [(v 0)]), (fn s_DrawSwingStep 4 [(v 0)]), (fn s_DrawSwingStep 5 [(v 0)]), (fn s_DrawSwingStep 6 [(v 0)]), (fn s_DrawSwingStep 7 [(v 0)])]) (fn s_SwingStep 2 [(fn s_DrawSwingStep 0 [(v 0)]), (fn s_DrawSwingStep 1 [(v 0)]), (fn s_DrawSwingStep 2 [(v 0)]), (fn s_DrawSwingStep 3 [(v 0)]), (fn s_DrawSwingStep 4 [(v 0)]), (fn s_DrawSwingStep 5 [(v 0)]), (fn s_DrawSwingStep 6 [(v 0)]), (fn s_DrawSwingStep 7 [(v 0)])])))) tt (nt (fn s_SameRows 0 [(fn i_SwingStep 1 [(fn s_DrawSwingStep 0 [(v 0)]), (fn s_DrawSwingStep 1 [(v 0)]), (fn s_DrawSwingStep 2 [(v 0)]), (fn s_DrawSwingStep 3 [(v 0)]), (fn s_DrawSwingStep 4 [(v 0)]), (fn s_DrawSwingStep 5 [(v 0)]), (fn s_DrawSwingStep 6 [(v 0)]), (fn s_DrawSwingStep 7 [(v 0)])]), (fn s_SwingStep 1 [(fn s_DrawSwingStep 0 [(v 0)]), (fn s_DrawSwingStep 1 [(v 0)]), (fn s_DrawSwingStep 2 [(v 0)]), (fn s_DrawSwingStep 3 [(v 0)]), (fn s_DrawSwingStep 4 [(v 0)]), (fn s_DrawSwingStep 5 [(v 0)]), (fn s_DrawSwingStep 6 [(v 0)]), (fn s_DrawSwingStep 7 [(v 0)])])]))))) <|
   .ite (it (it (it (nt (fn s_SameModel 0 [(fn i_SwingStep 0 [(fn s_DrawSwingStep 0 [(v 0)]), (fn s_DrawSwingStep 1 [(v 0)]), (fn s_DrawSwingStep 2 [(v 0)]), (fn s_DrawSwingStep 3 [(v 0)]), (fn s_DrawSwingStep 4 [(v 0)]), (fn s_DrawSwingStep 5 [(v 0)]), (fn s_DrawSwingStep 6 [(v 0)]), (fn s_DrawSwingStep 7 [(v 0)])]), (fn s_SwingStep 0 [(fn s_DrawSwingStep 0 [(v 0)]), (fn s_DrawSwingStep 1 [(v 0)]), (fn s_DrawSwingStep 2 [(v 0)]), (fn s_DrawSwingStep 3 [(v 0)]), (fn s_DrawSwingStep 4 [(v 0)]), (fn s_DrawSwingStep 5 [(v 0)]), (fn s_DrawSwingStep 6 [(v 0)]), (fn s_DrawSwingStep 7 [(v 0)])])])) tt (nt (eq (fn i_SwingStep 2 [(fn s_DrawSwingStep 0 [(v 0)]), (fn s_DrawSwingStep 1 [(v 0)]), (fn s_DrawSwingStep 2 [(v 0)]), (fn s_DrawSwingStep 3 [(v 0)]), (fn s_DrawSwingStep 4 [(v 0)]), (fn s_DrawSwingStep 5 [(v 0)]), (fn s_DrawSwingStep 6 [(v 0)]), (fn s_DrawSwingStep 7 [(v 0)])]) (fn s_SwingStep 2 [(fn s_DrawSwingStep 0 [(v 0)]), (fn s_DrawSwingStep 1 [(v 0)]), (fn s_DrawSwingStep 2 [(v 0)]), (fn s_DrawSwingStep 3 [(v 0)]), (fn s_DrawSwingStep 4 [(v 0)]), (fn s_DrawSwingStep 5 [(v 0)]), (fn s_DrawSwingStep 6 [(v 0)]), (fn s_DrawSwingStep 7 [(v 0)])])))) tt (nt (fn s_SameRows 0 [(fn i_SwingStep 1 [(fn s_DrawSwingStep 0 [(v 0)]), (fn s_DrawSwingStep 1 [(v 0)]), (fn s_DrawSwingStep 2 [(v 0)]), (fn s_DrawSwingStep 3 [(v 0)]), (fn s_DrawSwingStep 4 [(v 0)]), (fn s_DrawSwingStep 5 [(v 0)]), (fn s_DrawSwingStep 6 [(v 0)]), (fn s_DrawSwingStep 7 [(v 0)])]), (fn s_SwingStep 1 [(fn s_DrawSwingStep 0 [(v 0)]), (fn s_DrawSwingStep 1 [(v 0)]), (fn s_DrawSwingStep 2 [(v 0)]), (fn s_DrawSwingStep 3 [(v 0)]), (fn s_DrawSwingStep 4 [(v 0)]), (fn s_DrawSwingStep 5 [(v 0)]), (fn s_DrawSwingStep 6 [(v 0)]), (fn s_DrawSwingStep 7 [(v 0)])])]))) tt (nt (ap (.eqb) [(fn i_SwingStep 3 [(fn s_DrawSwingStep 0 [(v 0)]), (fn s_DrawSwingStep 1 [(v 0)]), (fn s_DrawSwingStep 2 [(v 0)]), (fn s_DrawSwingStep 3 [(v 0)]), (fn s_DrawSwingStep 4 [(v 0)]), (fn s_DrawSwingStep 5 [(v 0)]), (fn s_DrawSwingStep 6 [(v 0)]), (fn s_DrawSwingStep 7 [(v 0)])]), (fn s_SwingStep 3 [(fn s_DrawSwingStep 0 [(v 0)]), (fn s_DrawSwingStep 1 [(v 0)]), (fn s_DrawSwingStep 2 [(v 0)]), (fn s_DrawSwingStep 3 [(v 0)]), (fn s_DrawSwingStep 4 [(v 0)]), (fn s_DrawSwingStep 5 [(v 0)]), (fn s_DrawSwingStep 6 [(v 0)]), (fn s_DrawSwingStep 7 [(v 0)])])])))
   (.ret [ff])
   (ask s_SwingOk [(fn s_DrawSwingStep 0 [(v 0)]), (fn s_DrawSwingStep 1 [(v 0)]), (fn s_DrawSwingStep 2 [(v 0)])] <|
    .need (ro (nt (fn s_SwingOk 0 [(fn s_DrawSwingStep 0 [(v 0)]), (fn s_DrawSwingStep 1 [(v 0)]), (fn s_DrawSwingStep 2 [(v 0)])])) (nt (nt (fn s_SwingOk 0 [(fn s_DrawSwingStep 0 [(v 0)]), (fn s_DrawSwingStep 1 [(v 0)]), (fn s_DrawSwingStep 2 [(v 0)])])))) <|
    .need (ro (it (nt (fn s_SwingOk 0 [(fn s_DrawSwingStep 0 [(v 0)]), (fn s_DrawSwingStep 1 [(v 0)]), (fn s_DrawSwingStep 2 [(v 0)])])) tt (nt (eq (ln (fn s_DrawSwingStep 3 [(v 0)])) (ln (fn s_DrawSwingStep 0 [(v 0)]))))) (nt (it (nt (fn s_SwingOk 0 [(fn s_DrawSwingStep 0 [(v 0)]), (fn s_DrawSwingStep 1 [(v 0)]), (fn s_DrawSwingStep 2 [(v 0)])])) tt (nt (eq (ln (fn s_DrawSwingStep 3 [(v 0)])) (ln (fn s_DrawSwingStep 0 [(v 0)]))))))) <|
    .need (ro (it (it (nt (fn s_SwingOk 0 [(fn s_DrawSwingStep 0 [(v 0)]), (fn s_DrawSwingStep 1 [(v 0)]), (fn s_DrawSwingStep 2 [(v 0)])])) tt (nt (eq (ln (fn s_DrawSwingStep 3 [(v 0)])) (ln (fn s_DrawSwingStep 0 [(v 0)]))))) tt (le (n 1000000) (fn s_DrawSwingStep 2 [(v 0)]))) (nt (it (it (nt (fn s_SwingOk 0 [(fn s_DrawSwingStep 0 [(v 0)]), (fn s_DrawSwingStep 1 [(v 0)]), (fn s_DrawSwingStep 2 [(v 0)])])) tt (nt (eq (ln (fn s_DrawSwingStep 3 [(v 0)])) (ln (fn s_DrawSwingStep 0 [(v 0)]))))) tt (le (n 1000000) (fn s_DrawSwingStep 2 [(v 0)]))))) <|
    .ite (it (it (it (nt (fn s_SwingOk 0 [(fn s_DrawSwingStep 0 [(v 0)]), (fn s_DrawSwingStep 1 [(v 0)]), (fn s_DrawSwingStep 2 [(v 0)])])) tt (nt (eq (ln (fn s_DrawSwingStep 3 [(v 0)])) (ln (fn s_DrawSwingStep 0 [(v 0)]))))) tt (le (n 1000000) (fn s_DrawSwingStep 2 [(v 0)]))) tt (lt (n 2147483647) (fn s_DrawSwingStep 6 [(v 0)])))
    (ask i_SwingOk [(fn s_DrawSwingStep 0 [(v 0)]), (fn s_DrawSwingStep 1 [(v 0)]), (fn s_DrawSwingStep 2 [(v 0)])] <|
     ask s_SwingOk [(fn s_DrawSwingStep 0 [(v 0)]), (fn s_DrawSwingStep 1 [(v 0)]), (fn s_DrawSwingStep 2 [(v 0)])] <|
     .ret [(ap (.eqb) [(fn i_SwingOk 0 [(fn s_DrawSwingStep 0 [(v 0)]), (fn s_DrawSwingStep 1 [(v 0)]), (fn s_DrawSwingStep 2 [(v 0)])]), (fn s_SwingOk 0 [(fn s_DrawSwingStep 0 [(v 0)]), (fn s_DrawSwingStep 1 [(v 0)]), (fn s_DrawSwingStep 2 [(v 0)])])])])
    (ask i_SwingNew [(fn s_DrawSwingStep 0 [(v 0)])] <|
     ask i_SwingStep [(fn s_DrawSwingStep 0 [(v 0)]), (fn i_SwingNew 0 [(fn s_DrawSwingStep 0 [(v 0)])]), (fn i_SwingNew 1 [(fn s_DrawSwingStep 0 [(v 0)])]), (fn s_DrawSwingStep 3 [(v 0)]), (fn s_DrawSwingStep 4 [(v 0)]), (fn s_DrawSwingStep 5 [(v 0)]), (fn s_DrawSwingStep 6 [(v 0)]), (fn s_DrawSwingStep 7 [(v 0)])] <|
     ask i_Learn [(fn s_DrawSwingStep 0 [(v 0)]), (fn s_DrawSwingStep 3 [(v 0)]), (fn s_DrawSwingStep 4 [(v 0)]), (fn s_DrawSwingStep 5 [(v 0)]), (fn s_DrawSwingStep 6 [(v 0)])] <|
     ask i_SwingStep [(fn s_DrawSwingStep 0 [(v 0)]), (fn s_DrawSwingStep 1 [(v 0)]), (fn s_DrawSwingStep 2 [(v 0)]), (fn s_DrawSwingStep 3 [(v 0)]), (fn s_DrawSwingStep 4 [(v 0)]), (fn s_DrawSwingStep 5 [(v 0)]), (fn s_DrawSwingStep 6 [(v 0)]), (n 0)] <|
     ask i_SwingOk [(fn s_DrawSwingStep 0 [(v 0)]), (fn s_DrawSwingStep 1 [(v 0)]), (fn s_DrawSwingStep 2 [(v 0)])] <|
     .ask (an (fn i_SwingOk 0 [(fn s_DrawSwingStep 0 [(v 0)]), (fn s_DrawSwingStep 1 [(v 0)]), (fn s_DrawSwingStep 2 [(v 0)])]) (nt (lt (fn s_DrawSwingStep 7 [(v 0)]) (n (-2147483647))))) i_SwingOk [(fn i_SwingStep 0 [(fn s_DrawSwingStep 0 [(v 0)]), (fn s_DrawSwingStep 1 [(v 0)]), (fn s_DrawSwingStep 2 [(v 0)]), (fn s_DrawSwingStep 3 [(v 0)]), (fn s_DrawSwingStep 4 [(v 0)]), (fn s_DrawSwingStep 5 [(v 0)]), (fn s_DrawSwingStep 6 [(v 0)]), (fn s_DrawSwingStep 7 [(v 0)])]), (fn i_SwingStep 1 [(fn s_DrawSwingStep 0 [(v 0)]), (fn s_DrawSwingStep 1 [(v 0)]), (fn s_DrawSwingStep 2 [(v 0)]), (fn s_DrawSwingStep 3 [(v 0)]), (fn s_DrawSwingStep 4 [(v 0)]), (fn s_DrawSwingStep 5 [(v 0)]), (fn s_DrawSwingStep 6 [(v 0)]), (fn s_DrawSwingStep 7 [(v 0)])]), (fn i_SwingStep 2 [(fn s_DrawSwingStep 0 [(v 0)]), (fn s_DrawSwingStep 1 [(v 0)]), (fn s_DrawSwingStep 2 [(v 0)]), (fn s_DrawSwingStep 3 [(v 0)]), (fn s_DrawSwingStep 4 [(v 0)]), (fn s_DrawSwingStep 5 [(v 0)]), (fn s_DrawSwingStep 6 [(v 0)]), (fn s_DrawSwingStep 7 [(v 0)])])] <|
     .need (ro (nt (an (fn i_SwingOk 0 [(fn s_DrawSwingStep 0 [(v 0)]), (fn s_DrawSwingStep 1 [(v 0)]), (fn s_DrawSwingStep 2 [(v 0)])]) (nt (lt (fn s_DrawSwingStep 7 [(v 0)]) (n (-2147483647)))))) (ro (nt (fn i_SwingOk 0 [(fn i_SwingStep 0 [(fn s_DrawSwingStep 0 [(v 0)]), (fn s_DrawSwingStep 1 [(v 0)]), (fn s_DrawSwingStep 2 [(v 0)]), (fn s_DrawSwingStep 3 [(v 0)]), (fn s_DrawSwingStep 4 [(v 0)]), (fn s_DrawSwingStep 5 [(v 0)]), (fn s_DrawSwingStep 6 [(v 0)]), (fn s_DrawSwingStep 7 [(v 0)])]), (fn i_SwingStep 1 [(fn s_DrawSwingStep 0 [(v 0)]), (fn s_DrawSwingStep 1 [(v 0)]), (fn s_DrawSwingStep 2 [(v 0)]), (fn s_DrawSwingStep 3 [(v 0)]), (fn s_DrawSwingStep 4 [(v 0)]), (fn s_DrawSwingStep 5 [(v 0)]), (fn s_DrawSwingStep 6 [(v 0)]), (fn s_DrawSwingStep 7 [(v 0)])]), (fn i_SwingStep 2 [(fn s_DrawSwingStep 0 [(v 0)]), (fn s_DrawSwingStep 1 [(v 0)]), (fn s_DrawSwingStep 2 [(v 0)]), (fn s_DrawSwingStep 3 [(v 0)]), (fn s_DrawSwingStep 4 [(v 0)]), (fn s_DrawSwingStep 5 [(v 0)]), (fn s_DrawSwingStep 6 [(v 0)]), (fn s_DrawSwingStep 7 [(v 0)])])])) (an (an (fn i_SwingOk 0 [(fn s_DrawSwingStep 0 [(v 0)]), (fn s_DrawSwingStep 1 [(v 0)]), (fn s_DrawSwingStep 2 [(v 0)])]) (nt (lt (fn s_DrawSwingStep 7 [(v 0)]) (n (-2147483647))))) (fn i_SwingOk 0 [(fn i_SwingStep 0 [(fn s_DrawSwingStep 0 [(v 0)]), (fn s_DrawSwingStep 1 [(v 0)]), (fn s_DrawSwingStep 2 [(v 0)]), (fn s_DrawSwingStep 3 [(v 0)]), (fn s_DrawSwingStep 4 [(v 0)]), (fn s_DrawSwingStep 5 [(v 0)]), (fn s_DrawSwingStep 6 [(v 0)]), (fn s_DrawSwingStep 7 [(v 0)])]), (fn i_SwingStep 1 [(fn s_DrawSwingStep 0 [(v 0)]), (fn s_DrawSwingStep 1 [(v 0)]), (fn s_DrawSwingStep 2 [(v 0)]), (fn s_DrawSwingStep 3 [(v 0)]), (fn s_DrawSwingStep 4 [(v 0)]), (fn s_DrawSwingStep 5 [(v 0)]), (fn s_DrawSwingStep 6 [(v 0)]), (fn s_DrawSwingStep 7 [(v 0)])]), (fn i_SwingStep 2 [(fn s_DrawSwingStep 0 [(v 0)]), (fn s_DrawSwingStep 1 [(v 0)]), (fn s_DrawSwingStep 2 [(v 0)]), (fn s_DrawSwingStep 3 [(v 0)]), (fn s_DrawSwingStep 4 [(v 0)]), (fn s_DrawSwingStep 5 [(v 0)]), (fn s_DrawSwingStep 6 [(v 0)]), (fn s_DrawSwingStep 7 [(v 0)])])])))) <|
     .need (ro (nt (an (fn i_SwingOk 0 [(fn s_DrawSwingStep 0 [(v 0)]), (fn s_DrawSwingStep 1 [(v 0)]), (fn s_DrawSwingStep 2 [(v 0)])]) (nt (lt (fn s_DrawSwingStep 7 [(v 0)]) (n (-2147483647)))))) (ro (nt (it (fn i_SwingOk 0 [(fn i_SwingStep 0 [(fn s_DrawSwingStep 0 [(v 0)]), (fn s_DrawSwingStep 1 [(v 0)]), (fn s_DrawSwingStep 2 [(v 0)]), (fn s_DrawSwingStep 3 [(v 0)]), (fn s_DrawSwingStep 4 [(v 0)]), (fn s_DrawSwingStep 5 [(v 0)]), (fn s_DrawSwingStep 6 [(v 0)]), (fn s_DrawSwingStep 7 [(v 0)])]), (fn i_SwingStep 1 [(fn s_DrawSwingStep 0 [(v 0)]), (fn s_DrawSwingStep 1 [(v 0)]), (fn s_DrawSwingStep 2 [(v 0)]), (fn s_DrawSwingStep 3 [(v 0)]), (fn s_DrawSwingStep 4 [(v 0)]), (fn s_DrawSwingStep 5 [(v 0)]), (fn s_DrawSwingStep 6 [(v 0)]), (fn s_DrawSwingStep 7 [(v 0)])]), (fn i_SwingStep 2 [(fn s_DrawSwingStep 0 [(v 0)]), (fn s_DrawSwingStep 1 [(v 0)]), (fn s_DrawSwingStep 2 [(v 0)]), (fn s_DrawSwingStep 3 [(v 0)]), (fn s_DrawSwingStep 4 [(v 0)]), (fn s_DrawSwingStep 5 [(v 0)]), (fn s_DrawSwingStep 6 [(v 0)]), (fn s_DrawSwingStep 7 [(v 0)])])]) (eq (fn i_SwingStep 2 [(fn s_DrawSwingStep 0 [(v 0)]), (fn s_DrawSwingStep 1 [(v 0)]), (fn s_DrawSwingStep 2 [(v 0)]), (fn s_DrawSwingStep 3 [(v 0)]), (fn s_DrawSwingStep 4 [(v 0)]), (fn s_DrawSwingStep 5 [(v 0)]), (fn s_DrawSwingStep 6 [(v 0)]), (fn s_DrawSwingStep 7 [(v 0)])]) (ad (fn s_DrawSwingStep 2 [(v 0)]) (n 1))) ff)) (an (an (fn i_SwingOk 0 [(fn s_DrawSwingStep 0 [(v 0)]), (fn s_DrawSwingStep 1 [(v 0)]), (fn s_DrawSwingStep 2 [(v 0)])]) (nt (lt (fn s_DrawSwingStep 7 [(v 0)]) (n (-2147483647))))) (it (fn i_SwingOk 0 [(fn i_SwingStep 0 [(fn s_DrawSwingStep 0 [(v 0)]), (fn s_DrawSwingStep 1 [(v 0)]), (fn s_DrawSwingStep 2 [(v 0)]), (fn s_DrawSwingStep 3 [(v 0)]), (fn s_DrawSwingStep 4 [(v 0)]), (fn s_DrawSwingStep 5 [(v 0)]), (fn s_DrawSwingStep 6 [(v 0)]), (fn s_DrawSwingStep 7 [(v 0)])]), (fn i_SwingStep 1 [(fn s_DrawSwingStep 0 [(v 0)]), (fn s_DrawSwingStep 1 [(v 0)]), (fn s_DrawSwingStep 2 [(v 0)]), (fn s_DrawSwingStep 3 [(v 0)]), (fn s_DrawSwingStep 4 [(v 0)]), (fn s_DrawSwingStep 5 [(v 0)]), (fn s_DrawSwingStep 6 [(v 0)]), (fn s_DrawSwingStep 7 [(v 0)])]), (fn i_SwingStep 2 [(fn s_DrawSwingStep 0 [(v 0)]), (fn s_DrawSwingStep 1 [(v 0)]), (fn s_DrawSwingStep 2 [(v 0)]), (fn s_DrawSwingStep 3 [(v 0)]), (fn s_DrawSwingStep 4 [(v 0)]), (fn s_DrawSwingStep 5 [(v 0)]), (fn s_DrawSwingStep 6 [(v 0)]), (fn s_DrawSwingStep 7 [(v 0)])])]) (eq (fn i_SwingStep 2 [(fn s_DrawSwingStep 0 [(v 0)]), (fn s_DrawSwingStep 1 [(v 0)]), (fn s_DrawSwingStep 2 [(v 0)]), (fn s_DrawSwingStep 3 [(v 0)]), (fn s_DrawSwingStep 4 [(v 0)]), (fn s_DrawSwingStep 5 [(v 0)]), (fn s_DrawSwingStep 6 [(v 0)]), (fn s_DrawSwingStep 7 [(v 0)])]) (ad (fn s_DrawSwingStep 2 [(v 0)]) (n 1))) ff)))) <|
     .ask (an (an (fn i_SwingOk 0 [(fn s_DrawSwingStep 0 [(v 0)]), (fn s_DrawSwingStep 1 [(v 0)]), (fn s_DrawSwingStep 2 [(v 0)])]) (nt (lt (fn s_DrawSwingStep 7 [(v 0)]) (n (-2147483647))))) (it (it (fn i_SwingOk 0 [(fn i_SwingStep 0 [(fn s_DrawSwingStep 0 [(v 0)]), (fn s_DrawSwingStep 1 [(v 0)]), (fn s_DrawSwingStep 2 [(v 0)]), (fn s_DrawSwingStep 3 [(v 0)]), (fn s_DrawSwingStep 4 [(v 0)]), (fn s_DrawSwingStep 5 [(v 0)]), (fn s_DrawSwingStep 6 [(v 0)]), (fn s_DrawSwingStep 7 [(v 0)])]), (fn i_SwingStep 1 [(fn s_DrawSwingStep 0 [(v 0)]), (fn s_DrawSwingStep 1 [(v 0)]), (fn s_DrawSwingStep 2 [(v 0)]), (fn s_DrawSwingStep 3 [(v 0)]), (fn s_DrawSwingStep 4 [(v 0)]), (fn s_DrawSwingStep 5 [(v 0)]), (fn s_DrawSwingStep 6 [(v 0)]), (fn s_DrawSwingStep 7 [(v 0)])]), (fn i_SwingStep 2 [(fn s_DrawSwingStep 0 [(v 0)]), (fn s_DrawSwingStep 1 [(v 0)]), (fn s_DrawSwingStep 2 [(v 0)]), (fn s_DrawSwingStep 3 [(v 0)]), (fn s_DrawSwingStep 4 [(v 0)]), (fn s_DrawSwingStep 5 [(v 0)]), (fn s_DrawSwingStep 6 [(v 0)]), (fn s_DrawSwingStep 7 [(v 0)])])]) (eq (fn i_SwingStep 2 [(fn s_DrawSwingStep 0 [(v 0)]), (fn s_DrawSwingStep 1 [(v 0)]), (fn s_DrawSwingStep 2 [(v 0)]), (fn s_DrawSwingStep 3 [(v 0)]), (fn s_DrawSwingStep 4 [(v 0)]), (fn s_DrawSwingStep 5 [(v 0)]), (fn s_DrawSwingStep 6 [(v 0)]), (fn s_DrawSwingStep 7 [(v 0)])]) (ad (fn s_DrawSwingStep 2 [(v 0)]) (n 1))) ff) (eq (fn i_SwingStep 2 [(fn s_DrawSwingStep 0 [(v 0)]), (fn i_SwingNew 0 [(fn s_DrawSwingStep 0 [(v 0)])]), (fn i_SwingNew 1 [(fn s_DrawSwingStep 0 [(v 0)])]), (fn s_DrawSwingStep 3 [(v 0)]), (fn s_DrawSwingStep 4 [(v 0)]), (fn s_DrawSwingStep 5 [(v 0)]), (fn s_DrawSwingStep 6 [(v 0)]), (fn s_DrawSwingStep 7 [(v 0)])]) (n 1)) ff)) s_SameModel [(fn i_SwingStep 0 [(fn s_DrawSwingStep 0 [(v 0)]), (fn i_SwingNew 0 [(fn s_DrawSwingStep 0 [(v 0)])]), (fn i_SwingNew 1 [(fn s_DrawSwingStep 0 [(v 0)])]), (fn s_DrawSwingStep 3 [(v 0)]), (fn s_DrawSwingStep 4 [(v 0)]), (fn s_DrawSwingStep 5 [(v 0)]), (fn s_DrawSwingStep 6 [(v 0)]), (fn s_DrawSwingStep 7 [(v 0)])]), (fn i_Learn 0 [(fn s_DrawSwingStep 0 [(v 0)]), (fn s_DrawSwingStep 3 [(v 0)]), (fn s_DrawSwingStep 4 [(v 0)]), (fn s_DrawSwingStep 5 [(v 0)]), (fn s_DrawSwingStep 6 [(v 0)])])] <|
     .need (ro (nt (an (fn i_SwingOk 0 [(fn s_DrawSwingStep 0 [(v 0)]), (fn s_DrawSwingStep 1 [(v 0)]), (fn s_DrawSwingStep 2 [(v 0)])]) (nt (lt (fn s_DrawSwingStep 7 [(v 0)]) (n (-2147483647)))))) (ro (nt (it (it (fn i_SwingOk 0 [(fn i_SwingStep 0 [(fn s_DrawSwingStep 0 [(v 0)]), (fn s_DrawSwingStep 1 [(v 0)]), (fn s_DrawSwingStep 2 [(v 0)]), (fn s_DrawSwingStep 3 [(v 0)]), (fn s_DrawSwingStep 4 [(v 0)]), (fn s_DrawSwingStep 5 [(v 0)]), (fn s_DrawSwingStep 6 [(v 0)]), (fn s_DrawSwingStep 7 [(v 0)])]), (fn i_SwingStep 1 [(fn s_DrawSwingStep 0 [(v 0)]), (fn s_DrawSwingStep 1 [(v 0)]), (fn s_DrawSwingStep 2 [(v 0)]), (fn s_DrawSwingStep 3 [(v 0)]), (fn s_DrawSwingStep 4 [(v 0)]), (fn s_DrawSwingStep 5 [(v 0)]), (fn s_DrawSwingStep 6 [(v 0)]), (fn s_DrawSwingStep 7 [(v 0)])]), (fn i_SwingStep 2 [(fn s_DrawSwingStep 0 [(v 0)]), (fn s_DrawSwingStep 1 [(v 0)]), (fn s_DrawSwingStep 2 [(v 0)]), (fn s_DrawSwingStep 3 [(v 0)]), (fn s_DrawSwingStep 4 [(v 0)]), (fn s_DrawSwingStep 5 [(v 0)]), (fn s_DrawSwingStep 6 [(v 0)]), (fn s_DrawSwingStep 7 [(v 0)])])]) (eq (fn i_SwingStep 2 [(fn s_DrawSwingStep 0 [(v 0)]), (fn s_DrawSwingStep 1 [(v 0)]), (fn s_DrawSwingStep 2 [(v 0)]), (fn s_DrawSwingStep 3 [(v 0)]), (fn s_DrawSwingStep 4 [(v 0)]), (fn s_DrawSwingStep 5 [(v 0)]), (fn s_DrawSwingStep 6 [(v 0)]), (fn s_DrawSwingStep 7 [(v 0)])]) (ad (fn s_DrawSwingStep 2 [(v 0)]) (n 1))) ff) (eq (fn i_SwingStep 2 [(fn s_DrawSwingStep 0 [(v 0)]), (fn i_SwingNew 0 [(fn s_DrawSwingStep 0 [(v 0)])]), (fn i_SwingNew 1 [(fn s_DrawSwingStep 0 [(v 0)])]), (fn s_DrawSwingStep 3 [(v 0)]), (fn s_DrawSwingStep 4 [(v 0)]), (fn s_DrawSwingStep 5 [(v 0)]), (fn s_DrawSwingStep 6 [(v 0)]), (fn s_DrawSwingStep 7 [(v 0)])]) (n 1)) ff)) (an (an (fn i_SwingOk 0 [(fn s_DrawSwingStep 0 [(v 0)]), (fn s_DrawSwingStep 1 [(v 0)]), (fn s_DrawSwingStep 2 [(v 0)])]) (nt (lt (fn s_DrawSwingStep 7 [(v 0)]) (n (-2147483647))))) (it (it (fn i_SwingOk 0 [(fn i_SwingStep 0 [(fn s_DrawSwingStep 0 [(v 0)]), (fn s_DrawSwingStep 1 [(v 0)]), (fn s_DrawSwingStep 2 [(v 0)]), (fn s_DrawSwingStep 3 [(v 0)]), (fn s_DrawSwingStep 4 [(v 0)]), (fn s_DrawSwingStep 5 [(v 0)]), (fn s_DrawSwingStep 6 [(v 0)]), (fn s_DrawSwingStep 7 [(v 0)])]), (fn i_SwingStep 1 [(fn s_DrawSwingStep 0 [(v 0)]), (fn s_DrawSwingStep 1 [(v 0)]), (fn s_DrawSwingStep 2 [(v 0)]), (fn s_DrawSwingStep 3 [(v 0)]), (fn s_DrawSwingStep 4 [(v 0)]), (fn s_DrawSwingStep 5 [(v 0)]), (fn s_DrawSwingStep 6 [(v 0)]), (fn s_DrawSwingStep 7 [(v 0)])]), (fn i_SwingStep 2 [(fn s_DrawSwingStep 0 [(v 0)]), (fn s_DrawSwingStep 1 [(v 0)]), (fn s_DrawSwingStep 2 [(v 0)]), (fn s_DrawSwingStep 3 [(v 0)]), (fn s_DrawSwingStep 4 [(v 0)]), (fn s_DrawSwingStep 5 [(v 0)]), (fn s_DrawSwingStep 6 [(v 0)]), (fn s_DrawSwingStep 7 [(v 0)])])]) (eq (fn i_SwingStep 2 [(fn s_DrawSwingStep 0 [(v 0)]), (fn s_DrawSwingStep 1 [(v 0)]), (fn s_DrawSwingStep 2 [(v 0)]), (fn s_DrawSwingStep 3 [(v 0)]), (fn s_DrawSwingStep 4 [(v 0)]), (fn s_DrawSwingStep 5 [(v 0)]), (fn s_DrawSwingStep 6 [(v 0)]), (fn s_DrawSwingStep 7 [(v 0)])]) (ad (fn s_DrawSwingStep 2 [(v 0)]) (n 1))) ff) (eq (fn i_SwingStep 2 [(fn s_DrawSwingStep 0 [(v 0)]), (fn i_SwingNew 0 [(fn s_DrawSwingStep 0 [(v 0)])]), (fn i_SwingNew 1 [(fn s_DrawSwingStep 0 [(v 0)])]), (fn s_DrawSwingStep 3 [(v 0)]), (fn s_DrawSwingStep 4 [(v 0)]), (fn s_DrawSwingStep 5 [(v 0)]), (fn s_DrawSwingStep 6 [(v 0)]), (fn s_DrawSwingStep 7 [(v 0)])]) (n 1)) ff)))) <|
     .need (ro (nt (fn i_SwingOk 0 [(fn s_DrawSwingStep 0 [(v 0)]), (fn s_DrawSwingStep 1 [(v 0)]), (fn s_DrawSwingStep 2 [(v 0)])])) (ro (lt (fn s_DrawSwingStep 7 [(v 0)]) (n (-2147483647))) (an (fn i_SwingOk 0 [(fn s_DrawSwingStep 0 [(v 0)]), (fn s_DrawSwingStep 1 [(v 0)]), (fn s_DrawSwingStep 2 [(v 0)])]) (nt (lt (fn s_DrawSwingStep 7 [(v 0)]) (n (-2147483647))))))) <|
     .need (ro (nt (fn i_SwingOk 0 [(fn s_DrawSwingStep 0 [(v 0)]), (fn s_DrawSwingStep 1 [(v 0)]), (fn s_DrawSwingStep 2 [(v 0)])])) (fn i_SwingOk 0 [(fn s_DrawSwingStep 0 [(v 0)]), (fn s_DrawSwingStep 1 [(v 0)]), (fn s_DrawSwingStep 2 [(v 0)])])) <|
     .ask (it (fn i_SwingOk 0 [(fn s_DrawSwingStep 0 [(v 0)]), (fn s_DrawSwingStep 1 [(v 0)]), (fn s_DrawSwingStep 2 [(v 0)])]) (it (lt (fn s_DrawSwingStep 7 [(v 0)]) (n (-2147483647))) tt (it (it (it (fn i_SwingOk 0 [(fn i_SwingStep 0 [(fn s_DrawSwingStep 0 [(v 0)]), (fn s_DrawSwingStep 1 [(v 0)]), (fn s_DrawSwingStep 2 [(v 0)]), (fn s_DrawSwingStep 3 [(v 0)]), (fn s_DrawSwingStep 4 [(v 0)]), (fn s_DrawSwingStep 5 [(v 0)]), (fn s_DrawSwingStep 6 [(v 0)]), (fn s_DrawSwingStep 7 [(v 0)])]), (fn i_SwingStep 1 [(fn s_DrawSwingStep 0 [(v 0)]), (fn s_DrawSwingStep 1 [(v 0)]), (fn s_DrawSwingStep 2 [(v 0)]), (fn s_DrawSwingStep 3 [(v 0)]), (fn s_DrawSwingStep 4 [(v 0)]), (fn s_DrawSwingStep 5 [(v 0)]), (fn s_DrawSwingStep 6 [(v 0)]), (fn s_DrawSwingStep 7 [(v 0)])]), (fn i_SwingStep 2 [(fn s_DrawSwingStep 0 [(v 0)]), (fn s_DrawSwingStep 1 [(v 0)]), (fn s_DrawSwingStep 2 [(v 0)]), (fn s_DrawSwingStep 3 [(v 0)]), (fn s_DrawSwingStep 4 [(v 0)]), (fn s_DrawSwingStep 5 [(v 0)]), (fn s_DrawSwingStep 6 [(v 0)]), (fn s_DrawSwingStep 7 [(v 0)])])]) (eq (fn i_SwingStep 2 [(fn s_DrawSwingStep 0 [(v 0)]), (fn s_DrawSwingStep 1 [(v 0)]), (fn s_DrawSwingStep 2 [(v 0)]), (fn s_DrawSwingStep 3 [(v 0)]), (fn s_DrawSwingStep 4 [(v 0)]), (fn s_DrawSwingStep 5 [(v 0)]), (fn s_DrawSwingStep 6 [(v 0)]), (fn s_DrawSwingStep 7 [(v 0)])]) (ad (fn s_DrawSwingStep 2 [(v 0)]) (n 1))) ff) (eq (fn i_SwingStep 2 [(fn s_DrawSwingStep 0 [(v 0)]), (fn i_SwingNew 0 [(fn s_DrawSwingStep 0 [(v 0)])]), (fn i_SwingNew 1 [(fn s_DrawSwingStep 0 [(v 0)])]), (fn s_DrawSwingStep 3 [(v 0)]), (fn s_DrawSwingStep 4 [(v 0)]), (fn s_DrawSwingStep 5 [(v 0)]), (fn s_DrawSwingStep 6 [(v 0)]), (fn s_DrawSwingStep 7 [(v 0)])]) (n 1)) ff) (fn s_SameModel 0 [(fn i_SwingStep 0 [(fn s_DrawSwingStep 0 [(v 0)]), (fn i_SwingNew 0 [(fn s_DrawSwingStep 0 [(v 0)])]), (fn i_SwingNew 1 [(fn s_DrawSwingStep 0 [(v 0)])]), (fn s_DrawSwingStep 3 [(v 0)]), (fn s_DrawSwingStep 4 [(v 0)]), (fn s_DrawSwingStep 5 [(v 0)]), (fn s_DrawSwingStep 6 [(v 0)]), (fn s_DrawSwingStep 7 [(v 0)])]), (fn i_Learn 0 [(fn s_DrawSwingStep 0 [(v 0)]), (fn s_DrawSwingStep 3 [(v 0)]), (fn s_DrawSwingStep 4 [(v 0)]), (fn s_DrawSwingStep 5 [(v 0)]), (fn s_DrawSwingStep 6 [(v 0)])])]) ff)) ff) s_SameModel [(fn i_SwingStep 0 [(fn s_DrawSwingStep 0 [(v 0)]), (fn s_DrawSwingStep 1 [(v 0)]), (fn s_DrawSwingStep 2 [(v 0)]), (fn s_DrawSwingStep 3 [(v 0)]), (fn s_DrawSwingStep 4 [(v 0)]), (fn s_DrawSwingStep 5 [(v 0)]), (fn s_DrawSwingStep 6 [(v 0)]), (n 0)]), (fn i_Learn 0 [(fn s_DrawSwingStep 0 [(v 0)]), (fn s_DrawSwingStep 3 [(v 0)]), (fn s_DrawSwingStep 4 [(v 0)]), (fn s_DrawSwingStep 5 [(v 0)]), (fn s_DrawSwingStep 6 [(v 0)])])] <|
     .need (ro (nt (it (fn i_SwingOk 0 [(fn s_DrawSwingStep 0 [(v 0)]), (fn s_DrawSwingStep 1 [(v 0)]), (fn s_DrawSwingStep 2 [(v 0)])]) (it (lt (fn s_DrawSwingStep 7 [(v 0)]) (n (-2147483647))) tt (it (it (it (fn i_SwingOk 0 [(fn i_SwingStep 0 [(fn s_DrawSwingStep 0 [(v 0)]), (fn s_DrawSwingStep 1 [(v 0)]), (fn s_DrawSwingStep 2 [(v 0)]), (fn s_DrawSwingStep 3 [(v 0)]), (fn s_DrawSwingStep 4 [(v 0)]), (fn s_DrawSwingStep 5 [(v 0)]), (fn s_DrawSwingStep 6 [(v 0)]), (fn s_DrawSwingStep 7 [(v 0)])]), (fn i_SwingStep 1 [(fn s_DrawSwingStep 0 [(v 0)]), (fn s_DrawSwingStep 1 [(v 0)]), (fn s_DrawSwingStep 2 [(v 0)]), (fn s_DrawSwingStep 3 [(v 0)]), (fn s_DrawSwingStep 4 [(v 0)]), (fn s_DrawSwingStep 5 [(v 0)]), (fn s_DrawSwingStep 6 [(v 0)]), (fn s_DrawSwingStep 7 [(v 0)])]), (fn i_SwingStep 2 [(fn s_DrawSwingStep 0 [(v 0)]), (fn s_DrawSwingStep 1 [(v 0)]), (fn s_DrawSwingStep 2 [(v 0)]), (fn s_DrawSwingStep 3 [(v 0)]), (fn s_DrawSwingStep 4 [(v 0)]), (fn s_DrawSwingStep 5 [(v 0)]), (fn s_DrawSwingStep 6 [(v 0)]), (fn s_DrawSwingStep 7 [(v 0)])])]) (eq (fn i_SwingStep 2 [(fn s_DrawSwingStep 0 [(v 0)]), (fn s_DrawSwingStep 1 [(v 0)]), (fn s_DrawSwingStep 2 [(v 0)]), (fn s_DrawSwingStep 3 [(v 0)]), (fn s_DrawSwingStep 4 [(v 0)]), (fn s_DrawSwingStep 5 [(v 0)]), (fn s_DrawSwingStep 6 [(v 0)]), (fn s_DrawSwingStep 7 [(v 0)])]) (ad (fn s_DrawSwingStep 2 [(v 0)]) (n 1))) ff) (eq (fn i_SwingStep 2 [(fn s_DrawSwingStep 0 [(v 0)]), (fn i_SwingNew 0 [(fn s_DrawSwingStep 0 [(v 0)])]), (fn i_SwingNew 1 [(fn s_DrawSwingStep 0 [(v 0)])]), (fn s_DrawSwingStep 3 [(v 0)]), (fn s_DrawSwingStep 4 [(v 0)]), (fn s_DrawSwingStep 5 [(v 0)]), (fn s_DrawSwingStep 6 [(v 0)]), (fn s_DrawSwingStep 7 [(v 0)])]) (n 1)) ff) (fn s_SameModel 0 [(fn i_SwingStep 0 [(fn s_DrawSwingStep 0 [(v 0)]), (fn i_SwingNew 0 [(fn s_DrawSwingStep 0 [(v 0)])]), (fn i_SwingNew 1 [(fn s_DrawSwingStep 0 [(v 0)])]), (fn s_DrawSwingStep 3 [(v 0)]), (fn s_DrawSwingStep 4 [(v 0)]), (fn s_DrawSwingStep 5 [(v 0)]), (fn s_DrawSwingStep 6 [(v 0)]), (fn s_DrawSwingStep 7 [(v 0)])]), (fn i_Learn 0 [(fn s_DrawSwingStep 0 [(v 0)]), (fn s_DrawSwingStep 3 [(v 0)]), (fn s_DrawSwingStep 4 [(v 0)]), (fn s_DrawSwingStep 5 [(v 0)]), (fn s_DrawSwingStep 6 [(v 0)])])]) ff)) ff)) (it (fn i_SwingOk 0 [(fn s_DrawSwingStep 0 [(v 0)]), (fn s_DrawSwingStep 1 [(v 0)]), (fn s_DrawSwingStep 2 [(v 0)])]) (it (lt (fn s_DrawSwingStep 7 [(v 0)]) (n (-2147483647))) tt (it (it (it (fn i_SwingOk 0 [(fn i_SwingStep 0 [(fn s_DrawSwingStep 0 [(v 0)]), (fn s_DrawSwingStep 1 [(v 0)]), (fn s_DrawSwingStep 2 [(v 0)]), (fn s_DrawSwingStep 3 [(v 0)]), (fn s_DrawSwingStep 4 [(v 0)]), (fn s_DrawSwingStep 5 [(v 0)]), (fn s_DrawSwingStep 6 [(v 0)]), (fn s_DrawSwingStep 7 [(v 0)])]), (fn i_SwingStep 1 [(fn s_DrawSwingStep 0 [(v 0)]), (fn s_DrawSwingStep 1 [(v 0)]), (fn s_DrawSwingStep 2 [(v 0)]), (fn s_DrawSwingStep 3 [(v 0)]), (fn s_DrawSwingStep 4 [(v 0)]), (fn s_DrawSwingStep 5 [(v 0)]), (fn s_DrawSwingStep 6 [(v 0)]), (fn s_DrawSwingStep 7 [(v 0)])]), (fn i_SwingStep 2 [(fn s_DrawSwingStep 0 [(v 0)]), (fn s_DrawSwingStep 1 [(v 0)]), (fn s_DrawSwingStep 2 [(v 0)]), (fn s_DrawSwingStep 3 [(v 0)]), (fn s_DrawSwingStep 4 [(v 0)]), (fn s_DrawSwingStep 5 [(v 0)]), (fn s_DrawSwingStep 6 [(v 0)]), (fn s_DrawSwingStep 7 [(v 0)])])]) (eq (fn i_SwingStep 2 [(fn s_DrawSwingStep 0 [(v 0)]), (fn s_DrawSwingStep 1 [(v 0)]), (fn s_DrawSwingStep 2 [(v 0)]), (fn s_DrawSwingStep 3 [(v 0)]), (fn s_DrawSwingStep 4 [(v 0)]), (fn s_DrawSwingStep 5 [(v 0)]), (fn s_DrawSwingStep 6 [(v 0)]), (fn s_DrawSwingStep 7 [(v 0)])]) (ad (fn s_DrawSwingStep 2 [(v 0)]) (n 1))) ff) (eq (fn i_SwingStep 2 [(fn s_DrawSwingStep 0 [(v 0)]), (fn i_SwingNew 0 [(fn s_DrawSwingStep 0 [(v 0)])]), (fn i_SwingNew 1 [(fn s_DrawSwingStep 0 [(v 0)])]), (fn s_DrawSwingStep 3 [(v 0)]), (fn s_DrawSwingStep 4 [(v 0)]), (fn s_DrawSwingStep 5 [(v 0)]), (fn s_DrawSwingStep 6 [(v 0)]), (fn s_DrawSwingStep 7 [(v 0)])]) (n 1)) ff) (fn s_SameModel 0 [(fn i_SwingStep 0 [(fn s_DrawSwingStep 0 [(v 0)]), (fn i_SwingNew 0 [(fn s_DrawSwingStep 0 [(v 0)])]), (fn i_SwingNew 1 [(fn s_DrawSwingStep 0 [(v 0)])]), (fn s_DrawSwingStep 3 [(v 0)]), (fn s_DrawSwingStep 4 [(v 0)]), (fn s_DrawSwingStep 5 [(v 0)]), (fn s_DrawSwingStep 6 [(v 0)]), (fn s_DrawSwingStep 7 [(v 0)])]), (fn i_Learn 0 [(fn s_DrawSwingStep 0 [(v 0)]), (fn s_DrawSwingStep 3 [(v 0)]), (fn s_DrawSwingStep 4 [(v 0)]), (fn s_DrawSwingStep 5 [(v 0)]), (fn s_DrawSwingStep 6 [(v 0)])])]) ff)) ff)) <|
     .ask (it (it (fn i_SwingOk 0 [(fn s_DrawSwingStep 0 [(v 0)]), (fn s_DrawSwingStep 1 [(v 0)]), (fn s_DrawSwingStep 2 [(v 0)])]) (it (lt (fn s_DrawSwingStep 7 [(v 0)]) (n (-2147483647))) tt (it (it (it (fn i_SwingOk 0 [(fn i_SwingStep 0 [(fn s_DrawSwingStep 0 [(v 0)]), (fn s_DrawSwingStep 1 [(v 0)]), (fn s_DrawSwingStep 2 [(v 0)]), (fn s_DrawSwingStep 3 [(v 0)]), (fn s_DrawSwingStep 4 [(v 0)]), (fn s_DrawSwingStep 5 [(v 0)]), (fn s_DrawSwingStep 6 [(v 0)]), (fn s_DrawSwingStep 7 [(v 0)])]), (fn i_SwingStep 1 [(fn s_DrawSwingStep 0 [(v 0)]), (fn s_DrawSwingStep 1 [(v 0)]), (fn s_DrawSwingStep 2 [(v 0)]), (fn s_DrawSwingStep 3 [(v 0)]), (fn s_DrawSwingStep 4 [(v 0)]), (fn s_DrawSwingStep 5 [(v 0)]), (fn s_DrawSwingStep 6 [(v 0)]), (fn s_DrawSwingStep 7 [(v 0)])]), (fn i_SwingStep 2 [(fn s_DrawSwingStep 0 [(v 0)]), (fn s_DrawSwingStep 1 [(v 0)]), (fn s_DrawSwingStep 2 [(v 0)]), (fn s_DrawSwingStep 3 [(v 0)]), (fn s_DrawSwingStep 4 [(v 0)]), (fn s_DrawSwingStep 5 [(v 0)]), (fn s_DrawSwingStep 6 [(v 0)]), (fn s_DrawSwingStep 7 [(v 0)])])]) (eq (fn i_SwingStep 2 [(fn s_DrawSwingStep 0 [(v 0)]), (fn s_DrawSwingStep 1 [(v 0)]), (fn s_DrawSwingStep 2 [(v 0)]), (fn s_DrawSwingStep 3 [(v 0)]), (fn s_DrawSwingStep 4 [(v 0)]), (fn s_DrawSwingStep 5 [(v 0)]), (fn s_DrawSwingStep 6 [(v 0)]), (fn s_DrawSwingStep 7 [(v 0)])]) (ad (fn s_DrawSwingStep 2 [(v 0)]) (n 1))) ff) (eq (fn i_SwingStep 2 [(fn s_DrawSwingStep 0 [(v 0)]), (fn i_SwingNew 0 [(fn s_DrawSwingStep 0 [(v 0)])]), (fn i_SwingNew 1 [(fn s_DrawSwingStep 0 [(v 0)])]), (fn s_DrawSwingStep 3 [(v 0)]), (fn s_DrawSwingStep 4 [(v 0)]), (fn s_DrawSwingStep 5 [(v 0)]), (fn s_DrawSwingStep 6 [(v 0)]), (fn s_DrawSwingStep 7 [(v 0)])]) (n 1)) ff) (fn s_SameModel 0 [(fn i_SwingStep 0 [(fn s_DrawSwingStep 0 [(v 0)]), (fn i_SwingNew 0 [(fn s_DrawSwingStep 0 [(v 0)])]), (fn i_SwingNew 1 [(fn s_DrawSwingStep 0 [(v 0)])]), (fn s_DrawSwingStep 3 [(v 0)]), (fn s_DrawSwingStep 4 [(v 0)]), (fn s_DrawSwingStep 5 [(v 0)]), (fn s_DrawSwingStep 6 [(v 0)]), (fn s_DrawSwingStep 7 [(v 0)])]), (fn i_Learn 0 [(fn s_DrawSwingStep 0 [(v 0)]), (fn s_DrawSwingStep 3 [(v 0)]), (fn s_DrawSwingStep 4 [(v 0)]), (fn s_DrawSwingStep 5 [(v 0)]), (fn s_DrawSwingStep 6 [(v 0)])])]) ff)) ff) (fn s_SameModel 0 [(fn i_SwingStep 0 [(fn s_DrawSwingStep 0 [(v 0)]), (fn s_DrawSwingStep 1 [(v 0)]), (fn s_DrawSwingStep 2 [(v 0)]), (fn s_DrawSwingStep 3 [(v 0)]), (fn s_DrawSwingStep 4 [(v 0)]), (fn s_DrawSwingStep 5 [(v 0)]), (fn s_DrawSwingStep 6 [(v 0)]), (n 0)]), (fn i_Learn 0 [(fn s_DrawSwingStep 0 [(v 0)]), (fn s_DrawSwingStep 3 [(v 0)]), (fn s_DrawSwingStep 4 [(v 0)]), (fn s_DrawSwingStep 5 [(v 0)]), (fn s_DrawSwingStep 6 [(v 0)])])]) ff) s_SameRows [(fn i_SwingStep 1 [(fn s_DrawSwingStep 0 [(v 0)]), (fn s_DrawSwingStep 1 [(v 0)]), (fn s_DrawSwingStep 2 [(v 0)]), (fn s_DrawSwingStep 3 [(v 0)]), (fn s_DrawSwingStep 4 [(v 0)]), (fn s_DrawSwingStep 5 [(v 0)]), (fn s_DrawSwingStep 6 [(v 0)]), (n 0)]), (fn s_DrawSwingStep 3 [(v 0)])] <|
     .need (ro (nt (it (it (fn i_SwingOk 0 [(fn s_DrawSwingStep 0 [(v 0)]), (fn s_DrawSwingStep 1 [(v 0)]), (fn s_DrawSwingStep 2 [(v 0)])]) (it (lt (fn s_DrawSwingStep 7 [(v 0)]) (n (-2147483647))) tt (it (it (it (fn i_SwingOk 0 [(fn i_SwingStep 0 [(fn s_DrawSwingStep 0 [(v 0)]), (fn s_DrawSwingStep 1 [(v 0)]), (fn s_DrawSwingStep 2 [(v 0)]), (fn s_DrawSwingStep 3 [(v 0)]), (fn s_DrawSwingStep 4 [(v 0)]), (fn s_DrawSwingStep 5 [(v 0)]), (fn s_DrawSwingStep 6 [(v 0)]), (fn s_DrawSwingStep 7 [(v 0)])]), (fn i_SwingStep 1 [(fn s_DrawSwingStep 0 [(v 0)]), (fn s_DrawSwingStep 1 [(v 0)]), (fn s_DrawSwingStep 2 [(v 0)]), (fn s_DrawSwingStep 3 [(v 0)]), (fn s_DrawSwingStep 4 [(v 0)]), (fn s_DrawSwingStep 5 [(v 0)]), (fn s_DrawSwingStep 6 [(v 0)]), (fn s_DrawSwingStep 7 [(v 0)])]), (fn i_SwingStep 2 [(fn s_DrawSwingStep 0 [(v 0)]), (fn s_DrawSwingStep 1 [(v 0)]), (fn s_DrawSwingStep 2 [(v 0)]), (fn s_DrawSwingStep 3 [(v 0)]), (fn s_DrawSwingStep 4 [(v 0)]), (fn s_DrawSwingStep 5 [(v 0)]), (fn s_DrawSwingStep 6 [(v 0)]), (fn s_DrawSwingStep 7 [(v 0)])])]) (eq (fn i_SwingStep 2 [(fn s_DrawSwingStep 0 [(v 0)]), (fn s_DrawSwingStep 1 [(v 0)]), (fn s_DrawSwingStep 2 [(v 0)]), (fn s_DrawSwingStep 3 [(v 0)]), (fn s_DrawSwingStep 4 [(v 0)]), (fn s_DrawSwingStep 5 [(v 0)]), (fn s_DrawSwingStep 6 [(v 0)]), (fn s_DrawSwingStep 7 [(v 0)])]) (ad (fn s_DrawSwingStep 2 [(v 0)]) (n 1))) ff) (eq (fn i_SwingStep 2 [(fn s_DrawSwingStep 0 [(v 0)]), (fn i_SwingNew 0 [(fn s_DrawSwingStep 0 [(v 0)])]), (fn i_SwingNew 1 [(fn s_DrawSwingStep 0 [(v 0)])]), (fn s_DrawSwingStep 3 [(v 0)]), (fn s_DrawSwingStep 4 [(v 0)]), (fn s_DrawSwingStep 5 [(v 0)]), (fn s_DrawSwingStep 6 [(v 0)]), (fn s_DrawSwingStep 7 [(v 0)])]) (n 1)) ff) (fn s_SameModel 0 [(fn i_SwingStep 0 [(fn s_DrawSwingStep 0 [(v 0)]), (fn i_SwingNew 0 [(fn s_DrawSwingStep 0 [(v 0)])]), (fn i_SwingNew 1 [(fn s_DrawSwingStep 0 [(v 0)])]), (fn s_DrawSwingStep 3 [(v 0)]), (fn s_DrawSwingStep 4 [(v 0)]), (fn s_DrawSwingStep 5 [(v 0)]), (fn s_DrawSwingStep 6 [(v 0)]), (fn s_DrawSwingStep 7 [(v 0)])]), (fn i_Learn 0 [(fn s_DrawSwingStep 0 [(v 0)]), (fn s_DrawSwingStep 3 [(v 0)]), (fn s_DrawSwingStep 4 [(v 0)]), (fn s_DrawSwingStep 5 [(v 0)]), (fn s_DrawSwingStep 6 [(v 0)])])]) ff)) ff) (fn s_SameModel 0 [(fn i_SwingStep 0 [(fn s_DrawSwingStep 0 [(v 0)]), (fn s_DrawSwingStep 1 [(v 0)]), (fn s_DrawSwingStep 2 [(v 0)]), (fn s_DrawSwingStep 3 [(v 0)]), (fn s_DrawSwingStep 4 [(v 0)]), (fn s_DrawSwingStep 5 [(v 0)]), (fn s_DrawSwingStep 6 [(v 0)]), (n 0)]), (fn i_Learn 0 [(fn s_DrawSwingStep 0 [(v 0)]), (fn s_DrawSwingStep 3 [(v 0)]), (fn s_DrawSwingStep 4 [(v 0)]), (fn s_DrawSwingStep 5 [(v 0)]), (fn s_DrawSwingStep 6 [(v 0)])])]) ff)) (it (it (fn i_SwingOk 0 [(fn s_DrawSwingStep 0 [(v 0)]), (fn s_DrawSwingStep 1 [(v 0)]), (fn s_DrawSwingStep 2 [(v 0)])]) (it (lt (fn s_DrawSwingStep 7 [(v 0)]) (n (-2147483647))) tt (it (it (it (fn i_SwingOk 0 [(fn i_SwingStep 0 [(fn s_DrawSwingStep 0 [(v 0)]), (fn s_DrawSwingStep 1 [(v 0)]), (fn s_DrawSwingStep 2 [(v 0)]), (fn s_DrawSwingStep 3 [(v 0)]), (fn s_DrawSwingStep 4 [(v 0)]), (fn s_DrawSwingStep 5 [(v 0)]), (fn s_DrawSwingStep 6 [(v 0)]), (fn s_DrawSwingStep 7 [(v 0)])]), (fn i_SwingStep 1 [(fn s_DrawSwingStep 0 [(v 0)]), (fn s_DrawSwingStep 1 [(v 0)]), (fn s_DrawSwingStep 2 [(v 0)]), (fn s_DrawSwingStep 3 [(v 0)]), (fn s_DrawSwingStep 4 [(v 0)]), (fn s_DrawSwingStep 5 [(v 0)]), (fn s_DrawSwingStep 6 [(v 0)]), (fn s_DrawSwingStep 7 [(v 0)])]), (fn i_SwingStep 2 [(fn s_DrawSwingStep 0 [(v 0)]), (fn s_DrawSwingStep 1 [(v 0)]), (fn s_DrawSwingStep 2 [(v 0)]), (fn s_DrawSwingStep 3 [(v 0)]), (fn s_DrawSwingStep 4 [(v 0)]), (fn s_DrawSwingStep 5 [(v 0)]), (fn s_DrawSwingStep 6 [(v 0)]), (fn s_DrawSwingStep 7 [(v 0)])])]) (eq (fn i_SwingStep 2 [(fn s_DrawSwingStep 0 [(v 0)]), (fn s_DrawSwingStep 1 [(v 0)]), (fn s_DrawSwingStep 2 [(v 0)]), (fn s_DrawSwingStep 3 [(v 0)]), (fn s_DrawSwingStep 4 [(v 0)]), (fn s_DrawSwingStep 5 [(v 0)]), (fn s_DrawSwingStep 6 [(v 0)]), (fn s_DrawSwingStep 7 [(v 0)])]) (ad (fn s_DrawSwingStep 2 [(v 0)]) (n 1))) ff) (eq (fn i_SwingStep 2 [(fn s_DrawSwingStep 0 [(v 0)]), (fn i_SwingNew 0 [(fn s_DrawSwingStep 0 [(v 0)])]), (fn i_SwingNew 1 [(fn s_DrawSwingStep 0 [(v 0)])]), (fn s_DrawSwingStep 3 [(v 0)]), (fn s_DrawSwingStep 4 [(v 0)]), (fn s_DrawSwingStep 5 [(v 0)]), (fn s_DrawSwingStep 6 [(v 0)]), (fn s_DrawSwingStep 7 [(v 0)])]) (n 1)) ff) (fn s_SameModel 0 [(fn i_SwingStep 0 [(fn s_DrawSwingStep 0 [(v 0)]), (fn i_SwingNew 0 [(fn s_DrawSwingStep 0 [(v 0)])]), (fn i_SwingNew 1 [(fn s_DrawSwingStep 0 [(v 0)])]), (fn s_DrawSwingStep 3 [(v 0)]), (fn s_DrawSwingStep 4 [(v 0)]), (fn s_DrawSwingStep 5 [(v 0)]), (fn s_DrawSwingStep 6 [(v 0)]), (fn s_DrawSwingStep 7 [(v 0)])]), (fn i_Learn 0 [(fn s_DrawSwingStep 0 [(v 0)]), (fn s_DrawSwingStep 3 [(v 0)]), (fn s_DrawSwingStep 4 [(v 0)]), (fn s_DrawSwingStep 5 [(v 0)]), (fn s_DrawSwingStep 6 [(v 0)])])]) ff)) ff) (fn s_SameModel 0 [(fn i_SwingStep 0 [(fn s_DrawSwingStep 0 [(v 0)]), (fn s_DrawSwingStep 1 [(v 0)]), (fn s_DrawSwingStep 2 [(v 0)]), (fn s_DrawSwingStep 3 [(v 0)]), (fn s_DrawSwingStep 4 [(v 0)]), (fn s_DrawSwingStep 5 [(v 0)]), (fn s_DrawSwingStep 6 [(v 0)]), (n 0)]), (fn i_Learn 0 [(fn s_DrawSwingStep 0 [(v 0)]), (fn s_DrawSwingStep 3 [(v 0)]), (fn s_DrawSwingStep 4 [(v 0)]), (fn s_DrawSwingStep 5 [(v 0)]), (fn s_DrawSwingStep 6 [(v 0)])])]) ff)) <|
     .ret [(it (it (it (fn i_SwingOk 0 [(fn s_DrawSwingStep 0 [(v 0)]), (fn s_DrawSwingStep 1 [(v 0)]), (fn s_DrawSwingStep 2 [(v 0)])]) (it (lt (fn s_DrawSwingStep 7 [(v 0)]) (n (-2147483647))) tt (it (it (it (fn i_SwingOk 0 [(fn i_SwingStep 0 [(fn s_DrawSwingStep 0 [(v 0)]), (fn s_DrawSwingStep 1 [(v 0)]), (fn s_DrawSwingStep 2 [(v 0)]), (fn s_DrawSwingStep 3 [(v 0)]), (fn s_DrawSwingStep 4 [(v 0)]), (fn s_DrawSwingStep 5 [(v 0)]), (fn s_DrawSwingStep 6 [(v 0)]), (fn s_DrawSwingStep 7 [(v 0)])]), (fn i_SwingStep 1 [(fn s_DrawSwingStep 0 [(v 0)]), (fn s_DrawSwingStep 1 [(v 0)]), (fn s_DrawSwingStep 2 [(v 0)]), (fn s_DrawSwingStep 3 [(v 0)]), (fn s_DrawSwingStep 4 [(v 0)]), (fn s_DrawSwingStep 5 [(v 0)]), (fn s_DrawSwingStep 6 [(v 0)]), (fn s_DrawSwingStep 7 [(v 0)])]), (fn i_SwingStep 2 [(fn s_DrawSwingStep 0 [(v 0)]), (fn s_DrawSwingStep 1 [(v 0)]), (fn s_DrawSwingStep 2 [(v 0)]), (fn s_DrawSwingStep 3 [(v 0)]), (fn s_DrawSwingStep 4 [(v 0)]), (fn s_DrawSwingStep 5 [(v 0)]), (fn s_DrawSwingStep 6 [(v 0)]), (fn s_DrawSwingStep 7 [(v 0)])])]) (eq (fn i_SwingStep 2 [(fn s_DrawSwingStep 0 [(v 0)]), (fn s_DrawSwingStep 1 [(v 0)]), (fn s_DrawSwingStep 2 [(v 0)]), (fn s_DrawSwingStep 3 [(v 0)]), (fn s_DrawSwingStep 4 [(v 0)]), (fn s_DrawSwingStep 5 [(v 0)]), (fn s_DrawSwingStep 6 [(v 0)]), (fn s_DrawSwingStep 7 [(v 0)])]) (ad (fn s_DrawSwingStep 2 [(v 0)]) (n 1))) ff) (eq (fn i_SwingStep 2 [(fn s_DrawSwingStep 0 [(v 0)]), (fn i_SwingNew 0 [(fn s_DrawSwingStep 0 [(v 0)])]), (fn i_SwingNew 1 [(fn s_DrawSwingStep 0 [(v 0)])]), (fn s_DrawSwingStep 3 [(v 0)]), (fn s_DrawSwingStep 4 [(v 0)]), (fn s_DrawSwingStep 5 [(v 0)]), (fn s_DrawSwingStep 6 [(v 0)]), (fn s_DrawSwingStep 7 [(v 0)])]) (n 1)) ff) (fn s_SameModel 0 [(fn i_SwingStep 0 [(fn s_DrawSwingStep 0 [(v 0)]), (fn i_SwingNew 0 [(fn s_DrawSwingStep 0 [(v 0)])]), (fn i_SwingNew 1 [(fn s_DrawSwingStep 0 [(v 0)])]), (fn s_DrawSwingStep 3 [(v 0)]), (fn s_DrawSwingStep 4 [(v 0)]), (fn s_DrawSwingStep 5 [(v 0)]), (fn s_DrawSwingStep 6 [(v 0)]), (fn s_DrawSwingStep 7 [(v 0)])]), (fn i_Learn 0 [(fn s_DrawSwingStep 0 [(v 0)]), (fn s_DrawSwingStep 3 [(v 0)]), (fn s_DrawSwingStep 4 [(v 0)]), (fn s_DrawSwingStep 5 [(v 0)]), (fn s_DrawSwingStep 6 [(v 0)])])]) ff)) ff) (fn s_SameModel 0 [(fn i_SwingStep 0 [(fn s_DrawSwingStep 0 [(v 0)]), (fn s_DrawSwingStep 1 [(v 0)]), (fn s_DrawSwingStep 2 [(v 0)]), (fn s_DrawSwingStep 3 [(v 0)]), (fn s_DrawSwingStep 4 [(v 0)]), (fn s_DrawSwingStep 5 [(v 0)]), (fn s_DrawSwingStep 6 [(v 0)]), (n 0)]), (fn i_Learn 0 [(fn s_DrawSwingStep 0 [(v 0)]), (fn s_DrawSwingStep 3 [(v 0)]), (fn s_DrawSwingStep 4 [(v 0)]), (fn s_DrawSwingStep 5 [(v 0)]), (fn s_DrawSwingStep 6 [(v 0)])])]) ff) (fn s_SameRows 0 [(fn i_SwingStep 1 [(fn s_DrawSwingStep 0 [(v 0)]), (fn s_DrawSwingStep 1 [(v 0)]), (fn s_DrawSwingStep 2 [(v 0)]), (fn s_DrawSwingStep 3 [(v 0)]), (fn s_DrawSwingStep 4 [(v 0)]), (fn s_DrawSwingStep 5 [(v 0)]), (fn s_DrawSwingStep 6 [(v 0)]), (n 0)]), (fn s_DrawSwingStep 3 [(v 0)])]) ff)])))

end Go.Sx
