/-
  The trees of the functions that a law reaches, each as the machine makes it.
-/
import Derived.Test.YtnglgoloeabbeaaMZ
namespace Go.Sx
open Go

/-- laws.szIntS -/
def w_szIntS : Nat := 153
def t_w_szIntS : T :=
  .ite (lt (sb (v 1) (ln (v 0))) (n 0))
  (.ret [(n (-1))])
  (.ret [(sb (v 1) (ln (v 0)))])

/-- laws.szOp -/
def w_szOp : Nat := 116
def t_w_szOp : T :=
  ask w_szIntS [(v 3), (v 4)] <|
  .ite (lt (fn w_szIntS 0 [(v 3), (v 4)]) (n 0))
  (.ret [(n (-1))])
  (.ret [(fn w_szIntS 0 [(v 3), (v 4)])])

/-- laws.szOpS -/
def w_szOpS : Nat := 66
def t_w_szOpS : T :=
  .ite (lt (sb (v 1) (ln (v 0))) (n 0))
  (.ret [(n (-1))])
  (.loop 2 [(n 0), (sb (v 1) (ln (v 0)))] <|
    .ite (lt (v 2) (ln (v 0)))
    (.need (le (n 0) (v 2)) <|
     .need (lt (v 2) (ln (v 0))) <|
     ask w_szOp [(ce 0 (v 0) (v 2)), (ce 1 (v 0) (v 2)), (ce 2 (v 0) (v 2)), (ce 3 (v 0) (v 2)), (v 3)] <|
     .ite (lt (fn w_szOp 0 [(ce 0 (v 0) (v 2)), (ce 1 (v 0) (v 2)), (ce 2 (v 0) (v 2)), (ce 3 (v 0) (v 2)), (v 3)]) (n 0))
     (.ret [(n (-1))])
     (.again 0 [(ad (v 2) (n 1)), (fn w_szOp 0 [(ce 0 (v 0) (v 2)), (ce 1 (v 0) (v 2)), (ce 2 (v 0) (v 2)), (ce 3 (v 0) (v 2)), (v 3)])]))
    (.ret [(v 3)]))

/-- laws.szModel -/
def w_szModel : Nat := 18
def t_w_szModel : T :=
  ask w_szOpS [(v 0), (v 1)] <|
  .ite (lt (fn w_szOpS 0 [(v 0), (v 1)]) (n 0))
  (.ret [(n (-1))])
  (.ret [(fn w_szOpS 0 [(v 0), (v 1)])])

/-- laws.szRow -/
def w_szRow : Nat := 117
def t_w_szRow : T :=
  ask w_szIntS [(v 0), (v 1)] <|
  .ite (lt (fn w_szIntS 0 [(v 0), (v 1)]) (n 0))
  (.ret [(n (-1))])
  (.ret [(fn w_szIntS 0 [(v 0), (v 1)])])

/-- laws.szRowS -/
def w_szRowS : Nat := 67
def t_w_szRowS : T :=
  .ite (lt (sb (v 1) (ln (v 0))) (n 0))
  (.ret [(n (-1))])
  (.loop 2 [(n 0), (sb (v 1) (ln (v 0)))] <|
    .ite (lt (v 2) (ln (v 0)))
    (.need (le (n 0) (v 2)) <|
     .need (lt (v 2) (ln (v 0))) <|
     ask w_szRow [(ce 0 (v 0) (v 2)), (v 3)] <|
     .ite (lt (fn w_szRow 0 [(ce 0 (v 0) (v 2)), (v 3)]) (n 0))
     (.ret [(n (-1))])
     (.again 0 [(ad (v 2) (n 1)), (fn w_szRow 0 [(ce 0 (v 0) (v 2)), (v 3)])]))
    (.ret [(v 3)]))

/-- laws.szSwing -/
def w_szSwing : Nat := 19
def t_w_szSwing : T :=
  ask w_szRowS [(v 0), (v 2)] <|
  .ite (lt (fn w_szRowS 0 [(v 0), (v 2)]) (n 0))
  (.ret [(n (-1))])
  (.ret [(fn w_szRowS 0 [(v 0), (v 2)])])

/-- laws.szGrads -/
def w_szGrads : Nat := 20
def t_w_szGrads : T :=
  ask w_szRowS [(v 0), (v 3)] <|
  .ite (lt (fn w_szRowS 0 [(v 0), (v 3)]) (n 0))
  (.ret [(n (-1))])
  (.ret [(fn w_szRowS 0 [(v 0), (v 3)])])

/-- laws.toIntS -/
def w_toIntS : Nat := 154
def t_w_toIntS : T :=
  .need (le (n 0) (ln (v 0))) <|
  .need (le (ln (v 0)) (n 274877906944)) <|
  .loop 1 [(n 0), (ap (.rep) [(ln (v 0)), (n 0)])] <|
   .ite (lt (v 1) (ln (v 0)))
   (.need (le (n 0) (v 1)) <|
    .need (lt (v 1) (ln (v 0))) <|
    .need (le (n 0) (v 1)) <|
    .need (lt (v 1) (ln (v 2))) <|
    .again 0 [(ad (v 1) (n 1)), (ap (.set 0) [(v 2), (v 1), (ce 0 (v 0) (v 1))])])
   (.ret [(v 2)])

/-- laws.toOp -/
def w_toOp : Nat := 123
def t_w_toOp : T :=
  ask w_toIntS [(v 3)] <|
  .ret [(v 0), (v 1), (v 2), (fn w_toIntS 0 [(v 3)])]

/-- laws.toOpS -/
def w_toOpS : Nat := 73
def t_w_toOpS : T :=
  .need (le (n 0) (ln (v 0))) <|
  .need (le (ln (v 0)) (n 274877906944)) <|
  .loop 1 [(n 0), (ap (.rep) [(ln (v 0)), (n 0), (n 0), (n 0), .nil])] <|
   .ite (lt (v 1) (ln (v 0)))
   (.need (le (n 0) (v 1)) <|
    .need (lt (v 1) (ln (v 0))) <|
    ask w_toOp [(ce 0 (v 0) (v 1)), (ce 1 (v 0) (v 1)), (ce 2 (v 0) (v 1)), (ce 3 (v 0) (v 1))] <|
    .need (le (n 0) (v 1)) <|
    .need (lt (v 1) (ln (v 2))) <|
    .again 0 [(ad (v 1) (n 1)), (ap (.set 3) [(ap (.set 2) [(ap (.set 1) [(ap (.set 0) [(v 2), (v 1), (fn w_toOp 0 [(ce 0 (v 0) (v 1)), (ce 1 (v 0) (v 1)), (ce 2 (v 0) (v 1)), (ce 3 (v 0) (v 1))])]), (v 1), (fn w_toOp 1 [(ce 0 (v 0) (v 1)), (ce 1 (v 0) (v 1)), (ce 2 (v 0) (v 1)), (ce 3 (v 0) (v 1))])]), (v 1), (fn w_toOp 2 [(ce 0 (v 0) (v 1)), (ce 1 (v 0) (v 1)), (ce 2 (v 0) (v 1)), (ce 3 (v 0) (v 1))])]), (v 1), (fn w_toOp 3 [(ce 0 (v 0) (v 1)), (ce 1 (v 0) (v 1)), (ce 2 (v 0) (v 1)), (ce 3 (v 0) (v 1))])])])
   (.ret [(v 2)])

/-- laws.toModel -/
def w_toModel : Nat := 22
def t_w_toModel : T :=
  ask w_toOpS [(v 0)] <|
  .ret [(fn w_toOpS 0 [(v 0)])]

/-- laws.toRow -/
def w_toRow : Nat := 124
def t_w_toRow : T :=
  ask w_toIntS [(v 0)] <|
  .ret [(fn w_toIntS 0 [(v 0)])]

/-- laws.toRowS -/
def w_toRowS : Nat := 74
def t_w_toRowS : T :=
  .need (le (n 0) (ln (v 0))) <|
  .need (le (ln (v 0)) (n 274877906944)) <|
  .loop 1 [(n 0), (ap (.rep) [(ln (v 0)), .nil])] <|
   .ite (lt (v 1) (ln (v 0)))
   (.need (le (n 0) (v 1)) <|
    .need (lt (v 1) (ln (v 0))) <|
    ask w_toRow [(ce 0 (v 0) (v 1))] <|
    .need (le (n 0) (v 1)) <|
    .need (lt (v 1) (ln (v 2))) <|
    .again 0 [(ad (v 1) (n 1)), (ap (.set 0) [(v 2), (v 1), (fn w_toRow 0 [(ce 0 (v 0) (v 1))])])])
   (.ret [(v 2)])

/-- laws.toSwing -/
def w_toSwing : Nat := 23
def t_w_toSwing : T :=
  ask w_toRowS [(v 0)] <|
  .ret [(fn w_toRowS 0 [(v 0)]), (v 1)]

/-- laws.toGrads -/
def w_toGrads : Nat := 24
def t_w_toGrads : T :=
  ask w_toRowS [(v 0)] <|
  .ret [(fn w_toRowS 0 [(v 0)]), (v 1), (v 2)]

/-- spec.l11Rows -/
def s_l11Rows : Nat := 68
def t_s_l11Rows : T :=
  .loop 1 [(n 0), .nil] <|
   .ite (lt (v 1) (ln (v 0)))
   (.need (le (n 0) (v 1)) <|
    .need (lt (v 1) (ln (v 0))) <|
    .need (le (ln (ct .nil (ce 0 (v 0) (v 1)))) (n 274877906944)) <|
    .need (le (ln (ct (v 2) (ap (.mk 1) [(ct .nil (ce 0 (v 0) (v 1)))]))) (n 274877906944)) <|
    .again 0 [(ad (v 1) (n 1)), (ct (v 2) (ap (.mk 1) [(ct .nil (ce 0 (v 0) (v 1)))]))])
   (.ret [(v 2)])

/-- spec.l11Ops -/
def s_l11Ops : Nat := 118
def t_s_l11Ops : T :=
  .loop 1 [(n 0), .nil] <|
   .ite (lt (v 1) (ln (v 0)))
   (.need (le (n 0) (v 1)) <|
    .need (lt (v 1) (ln (v 0))) <|
    .need (le (n 0) (v 1)) <|
    .need (lt (v 1) (ln (v 0))) <|
    .need (le (ln (ct .nil (ce 3 (v 0) (v 1)))) (n 274877906944)) <|
    .need (le (ln (ct (v 2) (ap (.mk 4) [(ce 0 (v 0) (v 1)), (ce 1 (v 0) (v 1)), (ce 2 (v 0) (v 1)), (ct .nil (ce 3 (v 0) (v 1)))]))) (n 274877906944)) <|
    .again 0 [(ad (v 1) (n 1)), (ct (v 2) (ap (.mk 4) [(ce 0 (v 0) (v 1)), (ce 1 (v 0) (v 1)), (ce 2 (v 0) (v 1)), (ct .nil (ce 3 (v 0) (v 1)))]))])
   (.ret [(v 2)])

/-- spec.l1In -/
def s_l1In : Nat := 65
def t_s_l1In : T :=
  .need (ro (nt (le (v 1) (v 0))) (le (v 1) (v 0))) <|
  .ret [(it (le (v 1) (v 0)) (le (v 0) (v 2)) ff)]

/-- spec.OpSize -/
def s_OpSize : Nat := 115
def t_s_OpSize : T :=
  ask s_l1In [(v 1), (n 1), (n 6)] <|
  .ask (nt (nt (fn s_l1In 0 [(v 1), (n 1), (n 6)]))) s_l1In [(v 2), (n 1), (n 6)] <|
  .need (ro (nt (fn s_l1In 0 [(v 1), (n 1), (n 6)])) (nt (nt (fn s_l1In 0 [(v 1), (n 1), (n 6)])))) <|
  .ite (it (nt (fn s_l1In 0 [(v 1), (n 1), (n 6)])) tt (nt (fn s_l1In 0 [(v 2), (n 1), (n 6)])))
  (.ret [(n 0)])
  (.ite (eq (v 0) (n 1))
   (.ite (eq (v 0) (n 1))
    (.ret [(mu (v 1) (v 2))])
    (.ite (eq (v 0) (n 2))
     (.ret [(v 1)])
     (.ite (eq (v 0) (n 4))
      (.ret [(n 1)])
      (.ret [(n 0)]))))
   (.ite (eq (v 0) (n 5))
    (.ret [(mu (v 1) (v 2))])
    (.ite (eq (v 0) (n 2))
     (.ret [(v 1)])
     (.ite (eq (v 0) (n 4))
      (.ret [(n 1)])
      (.ret [(n 0)])))))

/-- spec.FixOk -/
def s_FixOk : Nat := 70
def t_s_FixOk : T :=
  ask s_l1In [(v 0), (n (-2147483647)), (n 2147483647)] <|
  .ret [(fn s_l1In 0 [(v 0), (n (-2147483647)), (n 2147483647)])]

/-- spec.OpOk -/
def s_OpOk : Nat := 64
def t_s_OpOk : T :=
  ask s_l1In [(v 0), (n 1), (n 5)] <|
  .ask (nt (nt (fn s_l1In 0 [(v 0), (n 1), (n 5)]))) s_l1In [(v 1), (n 1), (n 6)] <|
  .need (ro (nt (fn s_l1In 0 [(v 0), (n 1), (n 5)])) (nt (nt (fn s_l1In 0 [(v 0), (n 1), (n 5)])))) <|
  .ask (nt (it (nt (fn s_l1In 0 [(v 0), (n 1), (n 5)])) tt (nt (fn s_l1In 0 [(v 1), (n 1), (n 6)])))) s_l1In [(v 2), (n 1), (n 6)] <|
  .need (ro (it (nt (fn s_l1In 0 [(v 0), (n 1), (n 5)])) tt (nt (fn s_l1In 0 [(v 1), (n 1), (n 6)]))) (nt (it (nt (fn s_l1In 0 [(v 0), (n 1), (n 5)])) tt (nt (fn s_l1In 0 [(v 1), (n 1), (n 6)]))))) <|
  .need (ro (nt (nt (it (it (nt (fn s_l1In 0 [(v 0), (n 1), (n 5)])) tt (nt (fn s_l1In 0 [(v 1), (n 1), (n 6)]))) tt (nt (fn s_l1In 0 [(v 2), (n 1), (n 6)]))))) (ro (nt (nt (eq (v 0) (n 1)))) (an (nt (it (it (nt (fn s_l1In 0 [(v 0), (n 1), (n 5)])) tt (nt (fn s_l1In 0 [(v 1), (n 1), (n 6)]))) tt (nt (fn s_l1In 0 [(v 2), (n 1), (n 6)])))) (nt (eq (v 0) (n 1)))))) <|
  .need (ro (it (it (nt (fn s_l1In 0 [(v 0), (n 1), (n 5)])) tt (nt (fn s_l1In 0 [(v 1), (n 1), (n 6)]))) tt (nt (fn s_l1In 0 [(v 2), (n 1), (n 6)]))) (nt (it (it (nt (fn s_l1In 0 [(v 0), (n 1), (n 5)])) tt (nt (fn s_l1In 0 [(v 1), (n 1), (n 6)]))) tt (nt (fn s_l1In 0 [(v 2), (n 1), (n 6)]))))) <|
  .ask (nt (it (it (it (nt (fn s_l1In 0 [(v 0), (n 1), (n 5)])) tt (nt (fn s_l1In 0 [(v 1), (n 1), (n 6)]))) tt (nt (fn s_l1In 0 [(v 2), (n 1), (n 6)]))) tt (it (nt (eq (v 0) (n 1))) (nt (eq (v 1) (v 2))) ff))) s_OpSize [(v 0), (v 1), (v 2), (v 3)] <|
  .need (ro (it (it (it (nt (fn s_l1In 0 [(v 0), (n 1), (n 5)])) tt (nt (fn s_l1In 0 [(v 1), (n 1), (n 6)]))) tt (nt (fn s_l1In 0 [(v 2), (n 1), (n 6)]))) tt (it (nt (eq (v 0) (n 1))) (nt (eq (v 1) (v 2))) ff)) (nt (it (it (it (nt (fn s_l1In 0 [(v 0), (n 1), (n 5)])) tt (nt (fn s_l1In 0 [(v 1), (n 1), (n 6)]))) tt (nt (fn s_l1In 0 [(v 2), (n 1), (n 6)]))) tt (it (nt (eq (v 0) (n 1))) (nt (eq (v 1) (v 2))) ff)))) <|
  .ite (it (it (it (it (nt (fn s_l1In 0 [(v 0), (n 1), (n 5)])) tt (nt (fn s_l1In 0 [(v 1), (n 1), (n 6)]))) tt (nt (fn s_l1In 0 [(v 2), (n 1), (n 6)]))) tt (it (nt (eq (v 0) (n 1))) (nt (eq (v 1) (v 2))) ff)) tt (nt (eq (ln (v 3)) (fn s_OpSize 0 [(v 0), (v 1), (v 2), (v 3)]))))
  (.ret [ff])
  (.loop 4 [(n 0)] <|
    .ite (lt (v 4) (ln (v 3)))
    (.need (le (n 0) (v 4)) <|
     .need (lt (v 4) (ln (v 3))) <|
     ask s_FixOk [(ce 0 (v 3) (v 4))] <|
     .ite (nt (fn s_FixOk 0 [(ce 0 (v 3) (v 4))]))
     (.ret [ff])
     (.again 0 [(ad (v 4) (n 1))]))
    (.ret [tt]))

/-- spec.ModelOk -/
def s_ModelOk : Nat := 17
def t_s_ModelOk : T :=
  .loop 1 [(n 0)] <|
   .ite (lt (v 1) (ln (v 0)))
   (.need (le (n 0) (v 1)) <|
    .need (lt (v 1) (ln (v 0))) <|
    ask s_OpOk [(ce 0 (v 0) (v 1)), (ce 1 (v 0) (v 1)), (ce 2 (v 0) (v 1)), (ce 3 (v 0) (v 1))] <|
    .need (ro (nt (an (nt (nt (fn s_OpOk 0 [(ce 0 (v 0) (v 1)), (ce 1 (v 0) (v 1)), (ce 2 (v 0) (v 1)), (ce 3 (v 0) (v 1))]))) (lt (n 0) (v 1)))) (le (n 0) (v 1))) <|
    .need (ro (nt (an (nt (nt (fn s_OpOk 0 [(ce 0 (v 0) (v 1)), (ce 1 (v 0) (v 1)), (ce 2 (v 0) (v 1)), (ce 3 (v 0) (v 1))]))) (lt (n 0) (v 1)))) (lt (v 1) (ln (v 0)))) <|
    .need (ro (nt (an (nt (nt (fn s_OpOk 0 [(ce 0 (v 0) (v 1)), (ce 1 (v 0) (v 1)), (ce 2 (v 0) (v 1)), (ce 3 (v 0) (v 1))]))) (lt (n 0) (v 1)))) (le (n 0) (sb (v 1) (n 1)))) <|
    .need (ro (nt (an (nt (nt (fn s_OpOk 0 [(ce 0 (v 0) (v 1)), (ce 1 (v 0) (v 1)), (ce 2 (v 0) (v 1)), (ce 3 (v 0) (v 1))]))) (lt (n 0) (v 1)))) (lt (sb (v 1) (n 1)) (ln (v 0)))) <|
    .need (ro (nt (nt (nt (fn s_OpOk 0 [(ce 0 (v 0) (v 1)), (ce 1 (v 0) (v 1)), (ce 2 (v 0) (v 1)), (ce 3 (v 0) (v 1))])))) (ro (nt (lt (n 0) (v 1))) (an (nt (nt (fn s_OpOk 0 [(ce 0 (v 0) (v 1)), (ce 1 (v 0) (v 1)), (ce 2 (v 0) (v 1)), (ce 3 (v 0) (v 1))]))) (lt (n 0) (v 1))))) <|
    .need (ro (nt (fn s_OpOk 0 [(ce 0 (v 0) (v 1)), (ce 1 (v 0) (v 1)), (ce 2 (v 0) (v 1)), (ce 3 (v 0) (v 1))])) (nt (nt (fn s_OpOk 0 [(ce 0 (v 0) (v 1)), (ce 1 (v 0) (v 1)), (ce 2 (v 0) (v 1)), (ce 3 (v 0) (v 1))])))) <|
    .ite (it (nt (fn s_OpOk 0 [(ce 0 (v 0) (v 1)), (ce 1 (v 0) (v 1)), (ce 2 (v 0) (v 1)), (ce 3 (v 0) (v 1))])) tt (it (lt (n 0) (v 1)) (nt (eq (ce 1 (v 0) (v 1)) (ce 2 (v 0) (sb (v 1) (n 1))))) ff))
    (.ret [ff])
    (.again 0 [(ad (v 1) (n 1))]))
   (ask s_l1In [(ln (v 0)), (n 1), (n 8)] <|
    .ret [(fn s_l1In 0 [(ln (v 0)), (n 1), (n 8)])])

/-- spec.l2Sat -/
def s_l2Sat : Nat := 120
def t_s_l2Sat : T :=
  .ite (lt (n 2147483647) (v 0))
  (.ret [(n 2147483647), tt])
  (.ite (lt (v 0) (n (-2147483647)))
   (.ret [(n (-2147483647)), tt])
   (.ret [(v 0), ff]))

/-- spec.l2In -/
def s_l2In : Nat := 122
def t_s_l2In : T :=
  ask s_l2Sat [(v 0)] <|
  .ret [(fn s_l2Sat 0 [(v 0)])]

/-- spec.l2Floor -/
def s_l2Floor : Nat := 121
def t_s_l2Floor : T :=
  .need (nt (eq (v 1) (n 0))) <|
  .need (nt (eq (v 1) (n 0))) <|
  .need (ro (nt (nt (eq (rm (v 0) (v 1)) (n 0)))) (nt (eq (rm (v 0) (v 1)) (n 0)))) <|
  .ite (it (nt (eq (rm (v 0) (v 1)) (n 0))) (nt (ap (.eqb) [(lt (v 0) (n 0)), (lt (v 1) (n 0))])) ff)
  (.ret [(sb (qu (v 0) (v 1)) (n 1))])
  (.ret [(qu (v 0) (v 1))])

/-- spec.FixMul -/
def s_FixMul : Nat := 71
def t_s_FixMul : T :=
  ask s_l2In [(v 0)] <|
  ask s_l2In [(v 1)] <|
  ask s_l2Floor [(mu (fn s_l2In 0 [(v 0)]) (fn s_l2In 0 [(v 1)])), (n 65536)] <|
  ask s_l2Sat [(fn s_l2Floor 0 [(mu (fn s_l2In 0 [(v 0)]) (fn s_l2In 0 [(v 1)])), (n 65536)])] <|
  .ret [(fn s_l2Sat 0 [(fn s_l2Floor 0 [(mu (fn s_l2In 0 [(v 0)]) (fn s_l2In 0 [(v 1)])), (n 65536)])]), (fn s_l2Sat 1 [(fn s_l2Floor 0 [(mu (fn s_l2In 0 [(v 0)]) (fn s_l2In 0 [(v 1)])), (n 65536)])])]

/-- spec.FixSub -/
def s_FixSub : Nat := 119
def t_s_FixSub : T :=
  ask s_l2In [(v 0)] <|
  ask s_l2In [(v 1)] <|
  ask s_l2Sat [(sb (fn s_l2In 0 [(v 0)]) (fn s_l2In 0 [(v 1)]))] <|
  .ret [(fn s_l2Sat 0 [(sb (fn s_l2In 0 [(v 0)]) (fn s_l2In 0 [(v 1)]))]), (fn s_l2Sat 1 [(sb (fn s_l2In 0 [(v 0)]) (fn s_l2In 0 [(v 1)]))])]

/-- spec.Learn -/
def s_Learn : Nat := 69
def t_s_Learn : T :=
  ask s_l11Ops [(v 0)] <|
  ask s_ModelOk [(v 0)] <|
  .ask (nt (nt (fn s_ModelOk 0 [(v 0)]))) s_FixOk [(v 4)] <|
  .need (ro (nt (fn s_ModelOk 0 [(v 0)])) (nt (nt (fn s_ModelOk 0 [(v 0)])))) <|
  .need (ro (it (nt (fn s_ModelOk 0 [(v 0)])) tt (nt (fn s_FixOk 0 [(v 4)]))) (nt (it (nt (fn s_ModelOk 0 [(v 0)])) tt (nt (fn s_FixOk 0 [(v 4)]))))) <|
  .ite (it (it (nt (fn s_ModelOk 0 [(v 0)])) tt (nt (fn s_FixOk 0 [(v 4)]))) tt (nt (eq (ln (v 1)) (ln (v 0)))))
  (.ret [(fn s_l11Ops 0 [(v 0)]), ff])
  (.loop 5 [(n 0), ff, (fn s_l11Ops 0 [(v 0)])] <|
    .ite (lt (v 5) (ln (v 0)))
    (.need (le (n 0) (v 5)) <|
     .need (lt (v 5) (ln (v 1))) <|
     .need (le (n 0) (v 5)) <|
     .need (lt (v 5) (ln (v 0))) <|
     .ite (nt (eq (ln (ce 0 (v 1) (v 5))) (ln (ce 3 (v 0) (v 5)))))
     (ask s_l11Ops [(v 0)] <|
      .ret [(fn s_l11Ops 0 [(v 0)]), ff])
     (.loop 8 [(v 5), (n 0), (v 6), (v 7), .nil] <|
       .need (le (n 0) (v 8)) <|
       .need (lt (v 8) (ln (v 0))) <|
       .ite (lt (v 9) (ln (ce 3 (v 0) (v 8))))
       (.need (le (n 0) (v 8)) <|
        .need (lt (v 8) (ln (v 1))) <|
        .need (le (n 0) (v 9)) <|
        .need (lt (v 9) (ln (ce 0 (v 1) (v 8)))) <|
        ask s_FixMul [(v 4), (ce 0 (ce 0 (v 1) (v 8)) (v 9))] <|
        .need (le (n 0) (v 8)) <|
        .need (lt (v 8) (ln (v 0))) <|
        .need (le (n 0) (v 9)) <|
        .need (lt (v 9) (ln (ce 3 (v 0) (v 8)))) <|
        ask s_FixSub [(ce 0 (ce 3 (v 0) (v 8)) (v 9)), (fn s_FixMul 0 [(v 4), (ce 0 (ce 0 (v 1) (v 8)) (v 9))])] <|
        .need (le (ln (ct (v 12) (ap (.mk 1) [(fn s_FixSub 0 [(ce 0 (ce 3 (v 0) (v 8)) (v 9)), (fn s_FixMul 0 [(v 4), (ce 0 (ce 0 (v 1) (v 8)) (v 9))])])]))) (n 274877906944)) <|
        .need (ro (v 10) (nt (v 10))) <|
        .need (ro (it (v 10) tt (fn s_FixMul 1 [(v 4), (ce 0 (ce 0 (v 1) (v 8)) (v 9))])) (nt (it (v 10) tt (fn s_FixMul 1 [(v 4), (ce 0 (ce 0 (v 1) (v 8)) (v 9))])))) <|
        .again 0 [(v 8), (ad (v 9) (n 1)), (it (it (v 10) tt (fn s_FixMul 1 [(v 4), (ce 0 (ce 0 (v 1) (v 8)) (v 9))])) tt (fn s_FixSub 1 [(ce 0 (ce 3 (v 0) (v 8)) (v 9)), (fn s_FixMul 0 [(v 4), (ce 0 (ce 0 (v 1) (v 8)) (v 9))])])), (v 11), (ct (v 12) (ap (.mk 1) [(fn s_FixSub 0 [(ce 0 (ce 3 (v 0) (v 8)) (v 9)), (fn s_FixMul 0 [(v 4), (ce 0 (ce 0 (v 1) (v 8)) (v 9))])])]))])
       (.need (le (n 0) (v 8)) <|
        .need (lt (v 8) (ln (v 11))) <|
        .again 1 [(ad (v 8) (n 1)), (v 10), (ap (.set 3) [(v 11), (v 8), (v 12)])])))
    (.ret [(v 7), (v 6)]))

/-- spec.SwingOk -/
def s_SwingOk : Nat := 43
def t_s_SwingOk : T :=
  ask s_ModelOk [(v 0)] <|
  .need (ro (nt (fn s_ModelOk 0 [(v 0)])) (nt (nt (fn s_ModelOk 0 [(v 0)])))) <|
  .need (ro (it (nt (fn s_ModelOk 0 [(v 0)])) tt (nt (eq (ln (v 1)) (ln (v 0))))) (nt (it (nt (fn s_ModelOk 0 [(v 0)])) tt (nt (eq (ln (v 1)) (ln (v 0))))))) <|
  .ite (it (it (nt (fn s_ModelOk 0 [(v 0)])) tt (nt (eq (ln (v 1)) (ln (v 0))))) tt (lt (v 2) (n 0)))
  (.ret [ff])
  (.loop 3 [(n 0)] <|
    .ite (lt (v 3) (ln (v 0)))
    (.need (le (n 0) (v 3)) <|
     .need (lt (v 3) (ln (v 1))) <|
     .need (le (n 0) (v 3)) <|
     .need (lt (v 3) (ln (v 0))) <|
     .ite (nt (eq (ln (ce 0 (v 1) (v 3))) (ln (ce 3 (v 0) (v 3)))))
     (.ret [ff])
     (.loop 4 [(v 3), (n 0)] <|
       .need (le (n 0) (v 4)) <|
       .need (lt (v 4) (ln (v 1))) <|
       .ite (lt (v 5) (ln (ce 0 (v 1) (v 4))))
       (.need (le (n 0) (v 4)) <|
        .need (lt (v 4) (ln (v 1))) <|
        .need (le (n 0) (v 5)) <|
        .need (lt (v 5) (ln (ce 0 (v 1) (v 4)))) <|
        ask s_FixOk [(ce 0 (ce 0 (v 1) (v 4)) (v 5))] <|
        .ite (nt (fn s_FixOk 0 [(ce 0 (ce 0 (v 1) (v 4)) (v 5))]))
        (.ret [ff])
        (.again 0 [(v 4), (ad (v 5) (n 1))]))
       (.again 1 [(ad (v 4) (n 1))])))
    (.ret [tt]))

/-- spec.FixAdd -/
def s_FixAdd : Nat := 72
def t_s_FixAdd : T :=
  ask s_l2In [(v 0)] <|
  ask s_l2In [(v 1)] <|
  ask s_l2Sat [(ad (fn s_l2In 0 [(v 0)]) (fn s_l2In 0 [(v 1)]))] <|
  .ret [(fn s_l2Sat 0 [(ad (fn s_l2In 0 [(v 0)]) (fn s_l2In 0 [(v 1)]))]), (fn s_l2Sat 1 [(ad (fn s_l2In 0 [(v 0)]) (fn s_l2In 0 [(v 1)]))])]

/-- spec.SwingStep -/
def s_SwingStep : Nat := 21
def t_s_SwingStep : T :=
  ask s_l11Rows [(v 1)] <|
  ask s_Learn [(v 0), .nil, (n 0), ff, (n 0)] <|
  ask s_SwingOk [(v 0), (v 1), (v 2)] <|
  .ask (nt (nt (fn s_SwingOk 0 [(v 0), (v 1), (v 2)]))) s_FixOk [(v 6)] <|
  .need (ro (nt (fn s_SwingOk 0 [(v 0), (v 1), (v 2)])) (nt (nt (fn s_SwingOk 0 [(v 0), (v 1), (v 2)])))) <|
  .ask (nt (it (nt (fn s_SwingOk 0 [(v 0), (v 1), (v 2)])) tt (nt (fn s_FixOk 0 [(v 6)])))) s_FixOk [(v 7)] <|
  .need (ro (it (nt (fn s_SwingOk 0 [(v 0), (v 1), (v 2)])) tt (nt (fn s_FixOk 0 [(v 6)]))) (nt (it (nt (fn s_SwingOk 0 [(v 0), (v 1), (v 2)])) tt (nt (fn s_FixOk 0 [(v 6)]))))) <|
  .need (ro (it (it (nt (fn s_SwingOk 0 [(v 0), (v 1), (v 2)])) tt (nt (fn s_FixOk 0 [(v 6)]))) tt (nt (fn s_FixOk 0 [(v 7)]))) (nt (it (it (nt (fn s_SwingOk 0 [(v 0), (v 1), (v 2)])) tt (nt (fn s_FixOk 0 [(v 6)]))) tt (nt (fn s_FixOk 0 [(v 7)]))))) <|
  .need (ro (it (it (it (nt (fn s_SwingOk 0 [(v 0), (v 1), (v 2)])) tt (nt (fn s_FixOk 0 [(v 6)]))) tt (nt (fn s_FixOk 0 [(v 7)]))) tt (le (n 1000000) (v 2))) (nt (it (it (it (nt (fn s_SwingOk 0 [(v 0), (v 1), (v 2)])) tt (nt (fn s_FixOk 0 [(v 6)]))) tt (nt (fn s_FixOk 0 [(v 7)]))) tt (le (n 1000000) (v 2))))) <|
  .ite (it (it (it (it (nt (fn s_SwingOk 0 [(v 0), (v 1), (v 2)])) tt (nt (fn s_FixOk 0 [(v 6)]))) tt (nt (fn s_FixOk 0 [(v 7)]))) tt (le (n 1000000) (v 2))) tt (nt (eq (ln (v 3)) (ln (v 0)))))
  (.ret [(fn s_Learn 0 [(v 0), .nil, (n 0), ff, (n 0)]), (fn s_l11Rows 0 [(v 1)]), (v 2), ff])
  (.loop 8 [(n 0), ff, .nil] <|
    .ite (lt (v 8) (ln (v 0)))
    (.need (le (n 0) (v 8)) <|
     .need (lt (v 8) (ln (v 3))) <|
     .need (le (n 0) (v 8)) <|
     .need (lt (v 8) (ln (v 0))) <|
     .ite (nt (eq (ln (ce 0 (v 3) (v 8))) (ln (ce 3 (v 0) (v 8)))))
     (.ret [(fn s_Learn 0 [(v 0), .nil, (n 0), ff, (n 0)]), (fn s_l11Rows 0 [(v 1)]), (v 2), ff])
     (.loop 11 [(v 8), (n 0), (v 9), (v 10), .nil] <|
       .need (le (n 0) (v 11)) <|
       .need (lt (v 11) (ln (v 0))) <|
       .ite (lt (v 12) (ln (ce 3 (v 0) (v 11))))
       (.need (le (n 0) (v 11)) <|
        .need (lt (v 11) (ln (v 1))) <|
        .need (le (n 0) (v 12)) <|
        .need (lt (v 12) (ln (ce 0 (v 1) (v 11)))) <|
        ask s_FixMul [(v 7), (ce 0 (ce 0 (v 1) (v 11)) (v 12))] <|
        .need (le (n 0) (v 11)) <|
        .need (lt (v 11) (ln (v 3))) <|
        .need (le (n 0) (v 12)) <|
        .need (lt (v 12) (ln (ce 0 (v 3) (v 11)))) <|
        ask s_FixAdd [(fn s_FixMul 0 [(v 7), (ce 0 (ce 0 (v 1) (v 11)) (v 12))]), (ce 0 (ce 0 (v 3) (v 11)) (v 12))] <|
        .need (le (ln (ct (v 15) (ap (.mk 1) [(fn s_FixAdd 0 [(fn s_FixMul 0 [(v 7), (ce 0 (ce 0 (v 1) (v 11)) (v 12))]), (ce 0 (ce 0 (v 3) (v 11)) (v 12))])]))) (n 274877906944)) <|
        .need (ro (v 13) (nt (v 13))) <|
        .need (ro (it (v 13) tt (fn s_FixMul 1 [(v 7), (ce 0 (ce 0 (v 1) (v 11)) (v 12))])) (nt (it (v 13) tt (fn s_FixMul 1 [(v 7), (ce 0 (ce 0 (v 1) (v 11)) (v 12))])))) <|
        .again 0 [(v 11), (ad (v 12) (n 1)), (it (it (v 13) tt (fn s_FixMul 1 [(v 7), (ce 0 (ce 0 (v 1) (v 11)) (v 12))])) tt (fn s_FixAdd 1 [(fn s_FixMul 0 [(v 7), (ce 0 (ce 0 (v 1) (v 11)) (v 12))]), (ce 0 (ce 0 (v 3) (v 11)) (v 12))])), (v 14), (ct (v 15) (ap (.mk 1) [(fn s_FixAdd 0 [(fn s_FixMul 0 [(v 7), (ce 0 (ce 0 (v 1) (v 11)) (v 12))]), (ce 0 (ce 0 (v 3) (v 11)) (v 12))])]))])
       (.need (le (ln (ct (v 14) (ap (.mk 1) [(v 15)]))) (n 274877906944)) <|
        .again 1 [(ad (v 11) (n 1)), (v 13), (ct (v 14) (ap (.mk 1) [(v 15)]))])))
    (ask s_Learn [(v 0), (v 10), (n 0), ff, (v 6)] <|
     .need (ro (v 9) (nt (v 9))) <|
     .ret [(fn s_Learn 0 [(v 0), (v 10), (n 0), ff, (v 6)]), (v 10), (ad (v 2) (n 1)), (it (v 9) tt (fn s_Learn 1 [(v 0), (v 10), (n 0), ff, (v 6)]))]))

/-- impl.copyInts -/
def i_copyInts : Nat := 89
def t_i_copyInts : T :=
  .need (le (ln (ct .nil (v 0))) (n 274877906944)) <|
  .ret [(ct .nil (v 0))]

/-- impl.copyRows -/
def i_copyRows : Nat := 75
def t_i_copyRows : T :=
  .loop 1 [(n 0), .nil] <|
   .ite (lt (v 1) (ln (v 0)))
   (.need (le (n 0) (v 1)) <|
    .need (lt (v 1) (ln (v 0))) <|
    ask i_copyInts [(ce 0 (v 0) (v 1))] <|
    .need (le (ln (ct (v 2) (ap (.mk 1) [(fn i_copyInts 0 [(ce 0 (v 0) (v 1))])]))) (n 274877906944)) <|
    .again 0 [(ad (v 1) (n 1)), (ct (v 2) (ap (.mk 1) [(fn i_copyInts 0 [(ce 0 (v 0) (v 1))])]))])
   (.ret [(v 2)])

/-- impl.OpSize -/
def i_OpSize : Nat := 152
def t_i_OpSize : T :=
  .need (ro (lt (v 1) (n 1)) (nt (lt (v 1) (n 1)))) <|
  .need (ro (it (lt (v 1) (n 1)) tt (lt (n 6) (v 1))) (nt (it (lt (v 1) (n 1)) tt (lt (n 6) (v 1))))) <|
  .need (ro (it (it (lt (v 1) (n 1)) tt (lt (n 6) (v 1))) tt (lt (v 2) (n 1))) (nt (it (it (lt (v 1) (n 1)) tt (lt (n 6) (v 1))) tt (lt (v 2) (n 1))))) <|
  .ite (it (it (it (lt (v 1) (n 1)) tt (lt (n 6) (v 1))) tt (lt (v 2) (n 1))) tt (lt (n 6) (v 2)))
  (.ret [(n 0)])
  (.ite (eq (v 0) (n 1))
   (.ite (eq (v 0) (n 1))
    (.ret [(mu (v 1) (v 2))])
    (.ite (eq (v 0) (n 2))
     (.ret [(v 1)])
     (.ite (eq (v 0) (n 4))
      (.ret [(n 1)])
      (.ret [(n 0)]))))
   (.ite (eq (v 0) (n 5))
    (.ret [(mu (v 1) (v 2))])
    (.ite (eq (v 0) (n 2))
     (.ret [(v 1)])
     (.ite (eq (v 0) (n 4))
      (.ret [(n 1)])
      (.ret [(n 0)])))))

/-- impl.FixOk -/
def i_FixOk : Nat := 59
def t_i_FixOk : T :=
  .need (ro (nt (le (n (-2147483647)) (v 0))) (le (n (-2147483647)) (v 0))) <|
  .ret [(it (le (n (-2147483647)) (v 0)) (le (v 0) (n 2147483647)) ff)]

/-- impl.allFix -/
def i_allFix : Nat := 102
def t_i_allFix : T :=
  .loop 1 [(n 0)] <|
   .ite (lt (v 1) (ln (v 0)))
   (.need (le (n 0) (v 1)) <|
    .need (lt (v 1) (ln (v 0))) <|
    ask i_FixOk [(ce 0 (v 0) (v 1))] <|
    .ite (nt (fn i_FixOk 0 [(ce 0 (v 0) (v 1))]))
    (.ret [ff])
    (.again 0 [(ad (v 1) (n 1))]))
   (.ret [tt])

/-- impl.OpOk -/
def i_OpOk : Nat := 112
def t_i_OpOk : T :=
  .need (ro (lt (v 0) (n 1)) (nt (lt (v 0) (n 1)))) <|
  .need (ro (it (lt (v 0) (n 1)) tt (lt (n 5) (v 0))) (nt (it (lt (v 0) (n 1)) tt (lt (n 5) (v 0))))) <|
  .need (ro (it (it (lt (v 0) (n 1)) tt (lt (n 5) (v 0))) tt (lt (v 1) (n 1))) (nt (it (it (lt (v 0) (n 1)) tt (lt (n 5) (v 0))) tt (lt (v 1) (n 1))))) <|
  .need (ro (it (it (it (lt (v 0) (n 1)) tt (lt (n 5) (v 0))) tt (lt (v 1) (n 1))) tt (lt (n 6) (v 1))) (nt (it (it (it (lt (v 0) (n 1)) tt (lt (n 5) (v 0))) tt (lt (v 1) (n 1))) tt (lt (n 6) (v 1))))) <|
  .need (ro (it (it (it (it (lt (v 0) (n 1)) tt (lt (n 5) (v 0))) tt (lt (v 1) (n 1))) tt (lt (n 6) (v 1))) tt (lt (v 2) (n 1))) (nt (it (it (it (it (lt (v 0) (n 1)) tt (lt (n 5) (v 0))) tt (lt (v 1) (n 1))) tt (lt (n 6) (v 1))) tt (lt (v 2) (n 1))))) <|
  .ite (it (it (it (it (it (lt (v 0) (n 1)) tt (lt (n 5) (v 0))) tt (lt (v 1) (n 1))) tt (lt (n 6) (v 1))) tt (lt (v 2) (n 1))) tt (lt (n 6) (v 2)))
  (.ret [ff])
  (.need (ro (nt (nt (eq (v 0) (n 1)))) (nt (eq (v 0) (n 1)))) <|
   .ite (it (nt (eq (v 0) (n 1))) (nt (eq (v 1) (v 2))) ff)
   (.ret [ff])
   (ask i_OpSize [(v 0), (v 1), (v 2), (v 3)] <|
    .ask (eq (ln (v 3)) (fn i_OpSize 0 [(v 0), (v 1), (v 2), (v 3)])) i_allFix [(v 3)] <|
    .need (ro (nt (eq (ln (v 3)) (fn i_OpSize 0 [(v 0), (v 1), (v 2), (v 3)]))) (eq (ln (v 3)) (fn i_OpSize 0 [(v 0), (v 1), (v 2), (v 3)]))) <|
    .ret [(it (eq (ln (v 3)) (fn i_OpSize 0 [(v 0), (v 1), (v 2), (v 3)])) (fn i_allFix 0 [(v 3)]) ff)]))

/-- impl.ModelOk -/
def i_ModelOk : Nat := 58
def t_i_ModelOk : T :=
  .need (ro (lt (ln (v 0)) (n 1)) (nt (lt (ln (v 0)) (n 1)))) <|
  .ite (it (lt (ln (v 0)) (n 1)) tt (lt (n 8) (ln (v 0))))
  (.ret [ff])
  (.loop 1 [(n 0)] <|
    .ite (lt (v 1) (ln (v 0)))
    (.need (le (n 0) (v 1)) <|
     .need (lt (v 1) (ln (v 0))) <|
     ask i_OpOk [(ce 0 (v 0) (v 1)), (ce 1 (v 0) (v 1)), (ce 2 (v 0) (v 1)), (ce 3 (v 0) (v 1))] <|
     .need (ro (nt (an (nt (nt (fn i_OpOk 0 [(ce 0 (v 0) (v 1)), (ce 1 (v 0) (v 1)), (ce 2 (v 0) (v 1)), (ce 3 (v 0) (v 1))]))) (lt (n 0) (v 1)))) (le (n 0) (sb (v 1) (n 1)))) <|
     .need (ro (nt (an (nt (nt (fn i_OpOk 0 [(ce 0 (v 0) (v 1)), (ce 1 (v 0) (v 1)), (ce 2 (v 0) (v 1)), (ce 3 (v 0) (v 1))]))) (lt (n 0) (v 1)))) (lt (sb (v 1) (n 1)) (ln (v 0)))) <|
     .need (ro (nt (nt (nt (fn i_OpOk 0 [(ce 0 (v 0) (v 1)), (ce 1 (v 0) (v 1)), (ce 2 (v 0) (v 1)), (ce 3 (v 0) (v 1))])))) (ro (nt (lt (n 0) (v 1))) (an (nt (nt (fn i_OpOk 0 [(ce 0 (v 0) (v 1)), (ce 1 (v 0) (v 1)), (ce 2 (v 0) (v 1)), (ce 3 (v 0) (v 1))]))) (lt (n 0) (v 1))))) <|
     .need (ro (nt (fn i_OpOk 0 [(ce 0 (v 0) (v 1)), (ce 1 (v 0) (v 1)), (ce 2 (v 0) (v 1)), (ce 3 (v 0) (v 1))])) (nt (nt (fn i_OpOk 0 [(ce 0 (v 0) (v 1)), (ce 1 (v 0) (v 1)), (ce 2 (v 0) (v 1)), (ce 3 (v 0) (v 1))])))) <|
     .ite (it (nt (fn i_OpOk 0 [(ce 0 (v 0) (v 1)), (ce 1 (v 0) (v 1)), (ce 2 (v 0) (v 1)), (ce 3 (v 0) (v 1))])) tt (it (lt (n 0) (v 1)) (nt (eq (ce 2 (v 0) (sb (v 1) (n 1))) (ce 1 (v 0) (v 1)))) ff))
     (.ret [ff])
     (.again 0 [(ad (v 1) (n 1))]))
    (.ret [tt]))

/-- impl.gradsFit -/
def i_gradsFit : Nat := 60
def t_i_gradsFit : T :=
  .ite (nt (eq (ln (v 1)) (ln (v 0))))
  (.ret [ff])
  (.loop 2 [(n 0)] <|
    .ite (lt (v 2) (ln (v 0)))
    (.need (le (n 0) (v 2)) <|
     .need (lt (v 2) (ln (v 0))) <|
     .need (le (n 0) (v 2)) <|
     .need (lt (v 2) (ln (v 1))) <|
     .ite (nt (eq (ln (ce 0 (v 1) (v 2))) (ln (ce 3 (v 0) (v 2)))))
     (.ret [ff])
     (.again 0 [(ad (v 2) (n 1))]))
    (.ret [tt]))

/-- impl.SwingOk -/
def i_SwingOk : Nat := 44
def t_i_SwingOk : T :=
  ask i_ModelOk [(v 0)] <|
  .need (ro (nt (fn i_ModelOk 0 [(v 0)])) (nt (nt (fn i_ModelOk 0 [(v 0)])))) <|
  .ask (nt (it (nt (fn i_ModelOk 0 [(v 0)])) tt (lt (v 2) (n 0)))) i_gradsFit [(v 0), (v 1)] <|
  .need (ro (it (nt (fn i_ModelOk 0 [(v 0)])) tt (lt (v 2) (n 0))) (nt (it (nt (fn i_ModelOk 0 [(v 0)])) tt (lt (v 2) (n 0))))) <|
  .ite (it (it (nt (fn i_ModelOk 0 [(v 0)])) tt (lt (v 2) (n 0))) tt (nt (fn i_gradsFit 0 [(v 0), (v 1)])))
  (.ret [ff])
  (.loop 3 [(n 0)] <|
    .ite (lt (v 3) (ln (v 1)))
    (.need (le (n 0) (v 3)) <|
     .need (lt (v 3) (ln (v 1))) <|
     ask i_allFix [(ce 0 (v 1) (v 3))] <|
     .ite (nt (fn i_allFix 0 [(ce 0 (v 1) (v 3))]))
     (.ret [ff])
     (.again 0 [(ad (v 3) (n 1))]))
    (.ret [tt]))

/-- impl.copyOps -/
def i_copyOps : Nat := 111
def t_i_copyOps : T :=
  .loop 1 [(n 0), .nil] <|
   .ite (lt (v 1) (ln (v 0)))
   (.need (le (n 0) (v 1)) <|
    .need (lt (v 1) (ln (v 0))) <|
    ask i_copyInts [(ce 3 (v 0) (v 1))] <|
    .need (le (ln (ct (v 2) (ap (.mk 4) [(ce 0 (v 0) (v 1)), (ce 1 (v 0) (v 1)), (ce 2 (v 0) (v 1)), (fn i_copyInts 0 [(ce 3 (v 0) (v 1))])]))) (n 274877906944)) <|
    .again 0 [(ad (v 1) (n 1)), (ct (v 2) (ap (.mk 4) [(ce 0 (v 0) (v 1)), (ce 1 (v 0) (v 1)), (ce 2 (v 0) (v 1)), (fn i_copyInts 0 [(ce 3 (v 0) (v 1))])]))])
   (.ret [(v 2)])

/-- impl.copyModel -/
def i_copyModel : Nat := 57
def t_i_copyModel : T :=
  ask i_copyOps [(v 0)] <|
  .ret [(fn i_copyOps 0 [(v 0)])]

/-- impl.clamp -/
def i_clamp : Nat := 114
def t_i_clamp : T :=
  .ret [(ap (.mn) [(ap (.mx) [(v 0), (n (-2147483647))]), (n 2147483647)])]

/-- impl.settle -/
def i_settle : Nat := 113
def t_i_settle : T :=
  ask i_clamp [(v 0)] <|
  ask i_FixOk [(v 0)] <|
  .ret [(fn i_clamp 0 [(v 0)]), (nt (fn i_FixOk 0 [(v 0)]))]

/-- impl.FixMul -/
def i_FixMul : Nat := 61
def t_i_FixMul : T :=
  ask i_clamp [(v 0)] <|
  ask i_clamp [(v 1)] <|
  .need (le (n 0) (n 16)) <|
  ask i_settle [(ap (.shr .i64) [(mu (fn i_clamp 0 [(v 0)]) (fn i_clamp 0 [(v 1)])), (n 16)])] <|
  .ret [(fn i_settle 0 [(ap (.shr .i64) [(mu (fn i_clamp 0 [(v 0)]) (fn i_clamp 0 [(v 1)])), (n 16)])]), (fn i_settle 1 [(ap (.shr .i64) [(mu (fn i_clamp 0 [(v 0)]) (fn i_clamp 0 [(v 1)])), (n 16)])])]

/-- impl.FixAdd -/
def i_FixAdd : Nat := 76
def t_i_FixAdd : T :=
  ask i_clamp [(v 0)] <|
  ask i_clamp [(v 1)] <|
  ask i_settle [(ad (fn i_clamp 0 [(v 0)]) (fn i_clamp 0 [(v 1)]))] <|
  .ret [(fn i_settle 0 [(ad (fn i_clamp 0 [(v 0)]) (fn i_clamp 0 [(v 1)]))]), (fn i_settle 1 [(ad (fn i_clamp 0 [(v 0)]) (fn i_clamp 0 [(v 1)]))])]

/-- impl.FixSub -/
def i_FixSub : Nat := 62
def t_i_FixSub : T :=
  ask i_clamp [(v 0)] <|
  ask i_clamp [(v 1)] <|
  ask i_settle [(sb (fn i_clamp 0 [(v 0)]) (fn i_clamp 0 [(v 1)]))] <|
  .ret [(fn i_settle 0 [(sb (fn i_clamp 0 [(v 0)]) (fn i_clamp 0 [(v 1)]))]), (fn i_settle 1 [(sb (fn i_clamp 0 [(v 0)]) (fn i_clamp 0 [(v 1)]))])]

/-- impl.Learn -/
def i_Learn : Nat := 15
def t_i_Learn : T :=
  ask i_copyModel [(v 0)] <|
  ask i_ModelOk [(v 0)] <|
  .ask (nt (nt (fn i_ModelOk 0 [(v 0)]))) i_FixOk [(v 4)] <|
  .need (ro (nt (fn i_ModelOk 0 [(v 0)])) (nt (nt (fn i_ModelOk 0 [(v 0)])))) <|
  .ask (nt (it (nt (fn i_ModelOk 0 [(v 0)])) tt (nt (fn i_FixOk 0 [(v 4)])))) i_gradsFit [(v 0), (v 1)] <|
  .need (ro (it (nt (fn i_ModelOk 0 [(v 0)])) tt (nt (fn i_FixOk 0 [(v 4)]))) (nt (it (nt (fn i_ModelOk 0 [(v 0)])) tt (nt (fn i_FixOk 0 [(v 4)]))))) <|
  .ite (it (it (nt (fn i_ModelOk 0 [(v 0)])) tt (nt (fn i_FixOk 0 [(v 4)]))) tt (nt (fn i_gradsFit 0 [(v 0), (v 1)])))
  (.ret [(fn i_copyModel 0 [(v 0)]), ff])
  (.loop 5 [(n 0), ff, (fn i_copyModel 0 [(v 0)])] <|
    .ite (lt (v 5) (ln (fn i_copyModel 0 [(v 0)])))
    (.need (le (n 0) (v 5)) <|
     .need (lt (v 5) (ln (v 7))) <|
     .loop 8 [(v 5), (v 5), (v 5), (ln (ce 3 (v 7) (v 5))), (n 0), (v 6), (v 7)] <|
      .ite (lt (v 12) (v 11))
      (.need (le (n 0) (v 9)) <|
       .need (lt (v 9) (ln (v 1))) <|
       .need (le (n 0) (v 12)) <|
       .need (lt (v 12) (ln (ce 0 (v 1) (v 9)))) <|
       ask i_FixMul [(v 4), (ce 0 (ce 0 (v 1) (v 9)) (v 12))] <|
       .need (le (n 0) (v 12)) <|
       .need (lt (v 12) (ln (ce 3 (v 14) (v 8)))) <|
       ask i_FixSub [(ce 0 (ce 3 (v 14) (v 8)) (v 12)), (fn i_FixMul 0 [(v 4), (ce 0 (ce 0 (v 1) (v 9)) (v 12))])] <|
       .need (le (n 0) (v 12)) <|
       .need (lt (v 12) (ln (ce 3 (v 14) (v 8)))) <|
       .need (ro (v 13) (nt (v 13))) <|
       .need (ro (it (v 13) tt (fn i_FixMul 1 [(v 4), (ce 0 (ce 0 (v 1) (v 9)) (v 12))])) (nt (it (v 13) tt (fn i_FixMul 1 [(v 4), (ce 0 (ce 0 (v 1) (v 9)) (v 12))])))) <|
       .again 0 [(v 8), (v 9), (v 10), (v 11), (ad (v 12) (n 1)), (it (it (v 13) tt (fn i_FixMul 1 [(v 4), (ce 0 (ce 0 (v 1) (v 9)) (v 12))])) tt (fn i_FixSub 1 [(ce 0 (ce 3 (v 14) (v 8)) (v 12)), (fn i_FixMul 0 [(v 4), (ce 0 (ce 0 (v 1) (v 9)) (v 12))])])), (ap (.setd 3 0) [(v 14), (v 8), (v 12), (fn i_FixSub 0 [(ce 0 (ce 3 (v 14) (v 8)) (v 12)), (fn i_FixMul 0 [(v 4), (ce 0 (ce 0 (v 1) (v 9)) (v 12))])])])])
      (.again 1 [(ad (v 10) (n 1)), (v 13), (v 14)]))
    (.ret [(v 7), (v 6)]))

/-- impl.SwingStep -/
def i_SwingStep : Nat := 25
def t_i_SwingStep : T :=
  ask i_copyRows [(v 1)] <|
  ask i_SwingOk [(v 0), (v 1), (v 2)] <|
  .ask (nt (nt (fn i_SwingOk 0 [(v 0), (v 1), (v 2)]))) i_FixOk [(v 6)] <|
  .need (ro (nt (fn i_SwingOk 0 [(v 0), (v 1), (v 2)])) (nt (nt (fn i_SwingOk 0 [(v 0), (v 1), (v 2)])))) <|
  .ask (nt (it (nt (fn i_SwingOk 0 [(v 0), (v 1), (v 2)])) tt (nt (fn i_FixOk 0 [(v 6)])))) i_FixOk [(v 7)] <|
  .need (ro (it (nt (fn i_SwingOk 0 [(v 0), (v 1), (v 2)])) tt (nt (fn i_FixOk 0 [(v 6)]))) (nt (it (nt (fn i_SwingOk 0 [(v 0), (v 1), (v 2)])) tt (nt (fn i_FixOk 0 [(v 6)]))))) <|
  .need (ro (it (it (nt (fn i_SwingOk 0 [(v 0), (v 1), (v 2)])) tt (nt (fn i_FixOk 0 [(v 6)]))) tt (nt (fn i_FixOk 0 [(v 7)]))) (nt (it (it (nt (fn i_SwingOk 0 [(v 0), (v 1), (v 2)])) tt (nt (fn i_FixOk 0 [(v 6)]))) tt (nt (fn i_FixOk 0 [(v 7)]))))) <|
  .ask (nt (it (it (it (nt (fn i_SwingOk 0 [(v 0), (v 1), (v 2)])) tt (nt (fn i_FixOk 0 [(v 6)]))) tt (nt (fn i_FixOk 0 [(v 7)]))) tt (le (n 1000000) (v 2)))) i_gradsFit [(v 0), (v 3)] <|
  .need (ro (it (it (it (nt (fn i_SwingOk 0 [(v 0), (v 1), (v 2)])) tt (nt (fn i_FixOk 0 [(v 6)]))) tt (nt (fn i_FixOk 0 [(v 7)]))) tt (le (n 1000000) (v 2))) (nt (it (it (it (nt (fn i_SwingOk 0 [(v 0), (v 1), (v 2)])) tt (nt (fn i_FixOk 0 [(v 6)]))) tt (nt (fn i_FixOk 0 [(v 7)]))) tt (le (n 1000000) (v 2))))) <|
  .ite (it (it (it (it (nt (fn i_SwingOk 0 [(v 0), (v 1), (v 2)])) tt (nt (fn i_FixOk 0 [(v 6)]))) tt (nt (fn i_FixOk 0 [(v 7)]))) tt (le (n 1000000) (v 2))) tt (nt (fn i_gradsFit 0 [(v 0), (v 3)])))
  (ask i_copyModel [(v 0)] <|
   .ret [(fn i_copyModel 0 [(v 0)]), (fn i_copyRows 0 [(v 1)]), (v 2), ff])
  (.loop 8 [(n 0), ff, (fn i_copyRows 0 [(v 1)])] <|
    .ite (lt (v 8) (ln (fn i_copyRows 0 [(v 1)])))
    (.need (le (n 0) (v 8)) <|
     .need (lt (v 8) (ln (v 10))) <|
     .loop 11 [(v 8), (v 8), (v 8), (ln (ce 0 (v 10) (v 8))), (n 0), (v 9), (v 10)] <|
      .ite (lt (v 15) (v 14))
      (.need (le (n 0) (v 15)) <|
       .need (lt (v 15) (ln (ce 0 (v 17) (v 11)))) <|
       ask i_FixMul [(v 7), (ce 0 (ce 0 (v 17) (v 11)) (v 15))] <|
       .need (le (n 0) (v 12)) <|
       .need (lt (v 12) (ln (v 3))) <|
       .need (le (n 0) (v 15)) <|
       .need (lt (v 15) (ln (ce 0 (v 3) (v 12)))) <|
       ask i_FixAdd [(fn i_FixMul 0 [(v 7), (ce 0 (ce 0 (v 17) (v 11)) (v 15))]), (ce 0 (ce 0 (v 3) (v 12)) (v 15))] <|
       .need (le (n 0) (v 15)) <|
       .need (lt (v 15) (ln (ce 0 (v 17) (v 11)))) <|
       .need (ro (v 16) (nt (v 16))) <|
       .need (ro (it (v 16) tt (fn i_FixMul 1 [(v 7), (ce 0 (ce 0 (v 17) (v 11)) (v 15))])) (nt (it (v 16) tt (fn i_FixMul 1 [(v 7), (ce 0 (ce 0 (v 17) (v 11)) (v 15))])))) <|
       .again 0 [(v 11), (v 12), (v 13), (v 14), (ad (v 15) (n 1)), (it (it (v 16) tt (fn i_FixMul 1 [(v 7), (ce 0 (ce 0 (v 17) (v 11)) (v 15))])) tt (fn i_FixAdd 1 [(fn i_FixMul 0 [(v 7), (ce 0 (ce 0 (v 17) (v 11)) (v 15))]), (ce 0 (ce 0 (v 3) (v 12)) (v 15))])), (ap (.setd 0 0) [(v 17), (v 11), (v 15), (fn i_FixAdd 0 [(fn i_FixMul 0 [(v 7), (ce 0 (ce 0 (v 17) (v 11)) (v 15))]), (ce 0 (ce 0 (v 3) (v 12)) (v 15))])])])
      (.again 1 [(ad (v 13) (n 1)), (v 16), (v 17)]))
    (ask i_Learn [(v 0), (v 10), (n 0), ff, (v 6)] <|
     .need (ro (v 9) (nt (v 9))) <|
     .ret [(fn i_Learn 0 [(v 0), (v 10), (n 0), ff, (v 6)]), (v 10), (ad (v 2) (n 1)), (it (v 9) tt (fn i_Learn 1 [(v 0), (v 10), (n 0), ff, (v 6)]))]))

/-- laws.eqIntS -/
def w_eqIntS : Nat := 155
def t_w_eqIntS : T :=
  .ite (nt (eq (ln (v 0)) (ln (v 1))))
  (.ret [ff])
  (.loop 2 [(n 0)] <|
    .ite (lt (v 2) (ln (v 0)))
    (.need (le (n 0) (v 2)) <|
     .need (lt (v 2) (ln (v 0))) <|
     .need (le (n 0) (v 2)) <|
     .need (lt (v 2) (ln (v 1))) <|
     .ite (nt (eq (ce 0 (v 0) (v 2)) (ce 0 (v 1) (v 2))))
     (.ret [ff])
     (.again 0 [(ad (v 2) (n 1))]))
    (.ret [tt]))

/-- laws.eqOp -/
def w_eqOp : Nat := 125
def t_w_eqOp : T :=
  .ite (nt (eq (v 0) (v 4)))
  (.ret [ff])
  (.ite (nt (eq (v 1) (v 5)))
   (.ret [ff])
   (.ite (nt (eq (v 2) (v 6)))
    (.ret [ff])
    (ask w_eqIntS [(v 3), (v 7)] <|
     .ite (nt (fn w_eqIntS 0 [(v 3), (v 7)]))
     (.ret [ff])
     (.ret [tt]))))

/-- laws.eqOpS -/
def w_eqOpS : Nat := 77
def t_w_eqOpS : T :=
  .ite (nt (eq (ln (v 0)) (ln (v 1))))
  (.ret [ff])
  (.loop 2 [(n 0)] <|
    .ite (lt (v 2) (ln (v 0)))
    (.need (le (n 0) (v 2)) <|
     .need (lt (v 2) (ln (v 0))) <|
     .need (le (n 0) (v 2)) <|
     .need (lt (v 2) (ln (v 1))) <|
     ask w_eqOp [(ce 0 (v 0) (v 2)), (ce 1 (v 0) (v 2)), (ce 2 (v 0) (v 2)), (ce 3 (v 0) (v 2)), (ce 0 (v 1) (v 2)), (ce 1 (v 1) (v 2)), (ce 2 (v 1) (v 2)), (ce 3 (v 1) (v 2))] <|
     .ite (nt (fn w_eqOp 0 [(ce 0 (v 0) (v 2)), (ce 1 (v 0) (v 2)), (ce 2 (v 0) (v 2)), (ce 3 (v 0) (v 2)), (ce 0 (v 1) (v 2)), (ce 1 (v 1) (v 2)), (ce 2 (v 1) (v 2)), (ce 3 (v 1) (v 2))]))
     (.ret [ff])
     (.again 0 [(ad (v 2) (n 1))]))
    (.ret [tt]))

/-- laws.eqModel -/
def w_eqModel : Nat := 26
def t_w_eqModel : T :=
  ask w_eqOpS [(v 0), (v 1)] <|
  .ite (nt (fn w_eqOpS 0 [(v 0), (v 1)]))
  (.ret [ff])
  (.ret [tt])

/-- laws.eqRow -/
def w_eqRow : Nat := 126
def t_w_eqRow : T :=
  ask w_eqIntS [(v 0), (v 1)] <|
  .ite (nt (fn w_eqIntS 0 [(v 0), (v 1)]))
  (.ret [ff])
  (.ret [tt])

/-- laws.eqRowS -/
def w_eqRowS : Nat := 78
def t_w_eqRowS : T :=
  .ite (nt (eq (ln (v 0)) (ln (v 1))))
  (.ret [ff])
  (.loop 2 [(n 0)] <|
    .ite (lt (v 2) (ln (v 0)))
    (.need (le (n 0) (v 2)) <|
     .need (lt (v 2) (ln (v 0))) <|
     .need (le (n 0) (v 2)) <|
     .need (lt (v 2) (ln (v 1))) <|
     ask w_eqRow [(ce 0 (v 0) (v 2)), (ce 0 (v 1) (v 2))] <|
     .ite (nt (fn w_eqRow 0 [(ce 0 (v 0) (v 2)), (ce 0 (v 1) (v 2))]))
     (.ret [ff])
     (.again 0 [(ad (v 2) (n 1))]))
    (.ret [tt]))

/-- laws.eqSwing -/
def w_eqSwing : Nat := 27
def t_w_eqSwing : T :=
  ask w_eqRowS [(v 0), (v 2)] <|
  .ite (nt (fn w_eqRowS 0 [(v 0), (v 2)]))
  (.ret [ff])
  (.ite (nt (eq (v 1) (v 3)))
   (.ret [ff])
   (.ret [tt]))

/-- laws.eqGrads -/
def w_eqGrads : Nat := 28
def t_w_eqGrads : T :=
  ask w_eqRowS [(v 0), (v 3)] <|
  .ite (nt (fn w_eqRowS 0 [(v 0), (v 3)]))
  (.ret [ff])
  (.ite (nt (eq (v 1) (v 4)))
   (.ret [ff])
   (.ite (nt (ap (.eqb) [(v 2), (v 5)]))
    (.ret [ff])
    (.ret [tt])))

/-- laws.markIntS -/
def w_markIntS : Nat := 127
def t_w_markIntS : T :=
  .loop 2 [(n 0), (v 1), (v 0)] <|
   .ite (lt (v 2) (ln (v 4)))
   (.need (le (n 0) (v 2)) <|
    .need (lt (v 2) (ln (v 4))) <|
    .again 0 [(ad (v 2) (n 1)), (ad (v 3) (n 1)), (ap (.set 0) [(v 4), (v 2), (v 3)])])
   (.ret [(v 3), (v 4)])

/-- laws.markOpS -/
def w_markOpS : Nat := 79
def t_w_markOpS : T :=
  .loop 2 [(n 0), (v 1), (v 0)] <|
   .ite (lt (v 2) (ln (v 4)))
   (.need (le (n 0) (v 2)) <|
    .need (lt (v 2) (ln (v 4))) <|
    .need (le (n 0) (v 2)) <|
    .need (lt (v 2) (ln (ap (.set 0) [(v 4), (v 2), (v 3)]))) <|
    .need (le (n 0) (v 2)) <|
    .need (lt (v 2) (ln (ap (.set 1) [(ap (.set 0) [(v 4), (v 2), (v 3)]), (v 2), (ad (v 3) (n 1))]))) <|
    .need (le (n 0) (v 2)) <|
    .need (lt (v 2) (ln (ap (.set 2) [(ap (.set 1) [(ap (.set 0) [(v 4), (v 2), (v 3)]), (v 2), (ad (v 3) (n 1))]), (v 2), (ad (ad (v 3) (n 1)) (n 1))]))) <|
    ask w_markIntS [(ce 3 (ap (.set 2) [(ap (.set 1) [(ap (.set 0) [(v 4), (v 2), (v 3)]), (v 2), (ad (v 3) (n 1))]), (v 2), (ad (ad (v 3) (n 1)) (n 1))]) (v 2)), (ad (ad (ad (v 3) (n 1)) (n 1)) (n 1))] <|
    .again 0 [(ad (v 2) (n 1)), (fn w_markIntS 0 [(ce 3 (ap (.set 2) [(ap (.set 1) [(ap (.set 0) [(v 4), (v 2), (v 3)]), (v 2), (ad (v 3) (n 1))]), (v 2), (ad (ad (v 3) (n 1)) (n 1))]) (v 2)), (ad (ad (ad (v 3) (n 1)) (n 1)) (n 1))]), (ap (.setl 3) [(ap (.set 2) [(ap (.set 1) [(ap (.set 0) [(v 4), (v 2), (v 3)]), (v 2), (ad (v 3) (n 1))]), (v 2), (ad (ad (v 3) (n 1)) (n 1))]), (v 2), (fn w_markIntS 1 [(ce 3 (ap (.set 2) [(ap (.set 1) [(ap (.set 0) [(v 4), (v 2), (v 3)]), (v 2), (ad (v 3) (n 1))]), (v 2), (ad (ad (v 3) (n 1)) (n 1))]) (v 2)), (ad (ad (ad (v 3) (n 1)) (n 1)) (n 1))])])])
   (.ret [(v 3), (v 4)])

/-- laws.markModel -/
def w_markModel : Nat := 29
def t_w_markModel : T :=
  ask w_markOpS [(v 0), (v 1)] <|
  .ret [(fn w_markOpS 0 [(v 0), (v 1)]), (fn w_markOpS 1 [(v 0), (v 1)])]

/-- laws.markRowS -/
def w_markRowS : Nat := 80
def t_w_markRowS : T :=
  .loop 2 [(n 0), (v 1), (v 0)] <|
   .ite (lt (v 2) (ln (v 4)))
   (.need (le (n 0) (v 2)) <|
    .need (lt (v 2) (ln (v 4))) <|
    ask w_markIntS [(ce 0 (v 4) (v 2)), (v 3)] <|
    .again 0 [(ad (v 2) (n 1)), (fn w_markIntS 0 [(ce 0 (v 4) (v 2)), (v 3)]), (ap (.setl 0) [(v 4), (v 2), (fn w_markIntS 1 [(ce 0 (v 4) (v 2)), (v 3)])])])
   (.ret [(v 3), (v 4)])

/-- laws.markSwing -/
def w_markSwing : Nat := 30
def t_w_markSwing : T :=
  ask w_markRowS [(v 0), (v 2)] <|
  .ret [(fn w_markRowS 0 [(v 0), (v 2)]), (fn w_markRowS 1 [(v 0), (v 2)])]

/-- laws.markGrads -/
def w_markGrads : Nat := 31
def t_w_markGrads : T :=
  ask w_markRowS [(v 0), (v 3)] <|
  .ret [(fn w_markRowS 0 [(v 0), (v 3)]), (fn w_markRowS 1 [(v 0), (v 3)])]

/-- laws.heldIntS -/
def w_heldIntS : Nat := 128
def t_w_heldIntS : T :=
  .loop 2 [(n 0), (v 1)] <|
   .ite (lt (v 2) (ln (v 0)))
   (.need (le (n 0) (v 2)) <|
    .need (lt (v 2) (ln (v 0))) <|
    .ite (nt (eq (ce 0 (v 0) (v 2)) (v 3)))
    (.ret [(n (-1))])
    (.again 0 [(ad (v 2) (n 1)), (ad (v 3) (n 1))]))
   (.ret [(v 3)])

/-- laws.heldOpS -/
def w_heldOpS : Nat := 81
def t_w_heldOpS : T :=
  .loop 2 [(n 0), (v 1)] <|
   .ite (lt (v 2) (ln (v 0)))
   (.need (le (n 0) (v 2)) <|
    .need (lt (v 2) (ln (v 0))) <|
    .ite (nt (eq (ce 0 (v 0) (v 2)) (v 3)))
    (.ret [(n (-1))])
    (.need (le (n 0) (v 2)) <|
     .need (lt (v 2) (ln (v 0))) <|
     .ite (nt (eq (ce 1 (v 0) (v 2)) (ad (v 3) (n 1))))
     (.ret [(n (-1))])
     (.need (le (n 0) (v 2)) <|
      .need (lt (v 2) (ln (v 0))) <|
      .ite (nt (eq (ce 2 (v 0) (v 2)) (ad (ad (v 3) (n 1)) (n 1))))
      (.ret [(n (-1))])
      (.need (le (n 0) (v 2)) <|
       .need (lt (v 2) (ln (v 0))) <|
       ask w_heldIntS [(ce 3 (v 0) (v 2)), (ad (ad (ad (v 3) (n 1)) (n 1)) (n 1))] <|
       .ite (lt (fn w_heldIntS 0 [(ce 3 (v 0) (v 2)), (ad (ad (ad (v 3) (n 1)) (n 1)) (n 1))]) (n 0))
       (.ret [(n (-1))])
       (.again 0 [(ad (v 2) (n 1)), (fn w_heldIntS 0 [(ce 3 (v 0) (v 2)), (ad (ad (ad (v 3) (n 1)) (n 1)) (n 1))])])))))
   (.ret [(v 3)])

/-- laws.heldModel -/
def w_heldModel : Nat := 32
def t_w_heldModel : T :=
  ask w_heldOpS [(v 0), (v 1)] <|
  .ite (lt (fn w_heldOpS 0 [(v 0), (v 1)]) (n 0))
  (.ret [(n (-1))])
  (.ret [(fn w_heldOpS 0 [(v 0), (v 1)])])

/-- laws.heldRowS -/
def w_heldRowS : Nat := 82
def t_w_heldRowS : T :=
  .loop 2 [(n 0), (v 1)] <|
   .ite (lt (v 2) (ln (v 0)))
   (.need (le (n 0) (v 2)) <|
    .need (lt (v 2) (ln (v 0))) <|
    ask w_heldIntS [(ce 0 (v 0) (v 2)), (v 3)] <|
    .ite (lt (fn w_heldIntS 0 [(ce 0 (v 0) (v 2)), (v 3)]) (n 0))
    (.ret [(n (-1))])
    (.again 0 [(ad (v 2) (n 1)), (fn w_heldIntS 0 [(ce 0 (v 0) (v 2)), (v 3)])]))
   (.ret [(v 3)])

/-- laws.heldSwing -/
def w_heldSwing : Nat := 33
def t_w_heldSwing : T :=
  ask w_heldRowS [(v 0), (v 2)] <|
  .ite (lt (fn w_heldRowS 0 [(v 0), (v 2)]) (n 0))
  (.ret [(n (-1))])
  (.ret [(fn w_heldRowS 0 [(v 0), (v 2)])])

/-- laws.FnExactSwingStep -/
def w_FnExactSwingStep : Nat := 5
def t_w_FnExactSwingStep : T :=
  ask w_szModel [(v 0), (n 1048576)] <|
  .ite (lt (fn w_szModel 0 [(v 0), (n 1048576)]) (n 0))
  (.ret [tt])
  (ask w_szSwing [(v 1), (v 2), (fn w_szModel 0 [(v 0), (n 1048576)])] <|
   .ite (lt (fn w_szSwing 0 [(v 1), (v 2), (fn w_szModel 0 [(v 0), (n 1048576)])]) (n 0))
   (.ret [tt])
   (ask w_szGrads [(v 3), (v 4), (v 5), (fn w_szSwing 0 [(v 1), (v 2), (fn w_szModel 0 [(v 0), (n 1048576)])])] <|
    .ite (lt (fn w_szGrads 0 [(v 3), (v 4), (v 5), (fn w_szSwing 0 [(v 1), (v 2), (fn w_szModel 0 [(v 0), (n 1048576)])])]) (n 0))
    (.ret [tt])
    (ask w_toModel [(v 0)] <|
     ask w_toSwing [(v 1), (v 2)] <|
     ask w_toGrads [(v 3), (v 4), (v 5)] <|
     ask s_SwingStep [(fn w_toModel 0 [(v 0)]), (fn w_toSwing 0 [(v 1), (v 2)]), (fn w_toSwing 1 [(v 1), (v 2)]), (fn w_toGrads 0 [(v 3), (v 4), (v 5)]), (fn w_toGrads 1 [(v 3), (v 4), (v 5)]), (fn w_toGrads 2 [(v 3), (v 4), (v 5)]), (v 6), (v 7)] <|
     ask w_toModel [(v 0)] <|
     ask w_toSwing [(v 1), (v 2)] <|
     ask w_toGrads [(v 3), (v 4), (v 5)] <|
     ask i_SwingStep [(fn w_toModel 0 [(v 0)]), (fn w_toSwing 0 [(v 1), (v 2)]), (fn w_toSwing 1 [(v 1), (v 2)]), (fn w_toGrads 0 [(v 3), (v 4), (v 5)]), (fn w_toGrads 1 [(v 3), (v 4), (v 5)]), (fn w_toGrads 2 [(v 3), (v 4), (v 5)]), (v 6), (v 7)] <|
     ask w_eqModel [(fn i_SwingStep 0 [(fn w_toModel 0 [(v 0)]), (fn w_toSwing 0 [(v 1), (v 2)]), (fn w_toSwing 1 [(v 1), (v 2)]), (fn w_toGrads 0 [(v 3), (v 4), (v 5)]), (fn w_toGrads 1 [(v 3), (v 4), (v 5)]), (fn w_toGrads 2 [(v 3), (v 4), (v 5)]), (v 6), (v 7)]), (fn s_SwingStep 0 [(fn w_toModel 0 [(v 0)]), (fn w_toSwing 0 [(v 1), (v 2)]), (fn w_toSwing 1 [(v 1), (v 2)]), (fn w_toGrads 0 [(v 3), (v 4), (v 5)]), (fn w_toGrads 1 [(v 3), (v 4), (v 5)]), (fn w_toGrads 2 [(v 3), (v 4), (v 5)]), (v 6), (v 7)])] <|
     .ask (nt (nt (fn w_eqModel 0 [(fn i_SwingStep 0 [(fn w_toModel 0 [(v 0)]), (fn w_toSwing 0 [(v 1), (v 2)]), (fn w_toSwing 1 [(v 1), (v 2)]), (fn w_toGrads 0 [(v 3), (v 4), (v 5)]), (fn w_toGrads 1 [(v 3), (v 4), (v 5)]), (fn w_toGrads 2 [(v 3), (v 4), (v 5)]), (v 6), (v 7)]), (fn s_SwingStep 0 [(fn w_toModel 0 [(v 0)]), (fn w_toSwing 0 [(v 1), (v 2)]), (fn w_toSwing 1 [(v 1), (v 2)]), (fn w_toGrads 0 [(v 3), (v 4), (v 5)]), (fn w_toGrads 1 [(v 3), (v 4), (v 5)]), (fn w_toGrads 2 [(v 3), (v 4), (v 5)]), (v 6), (v 7)])]))) w_eqSwing [(fn i_SwingStep 1 [(fn w_toModel 0 [(v 0)]), (fn w_toSwing 0 [(v 1), (v 2)]), (fn w_toSwing 1 [(v 1), (v 2)]), (fn w_toGrads 0 [(v 3), (v 4), (v 5)]), (fn w_toGrads 1 [(v 3), (v 4), (v 5)]), (fn w_toGrads 2 [(v 3), (v 4), (v 5)]), (v 6), (v 7)]), (fn i_SwingStep 2 [(fn w_toModel 0 [(v 0)]), (fn w_toSwing 0 [(v 1), (v 2)]), (fn w_toSwing 1 [(v 1), (v 2)]), (fn w_toGrads 0 [(v 3), (v 4), (v 5)]), (fn w_toGrads 1 [(v 3), (v 4), (v 5)]), (fn w_toGrads 2 [(v 3), (v 4), (v 5)]), (v 6), (v 7)]), (fn s_SwingStep 1 [(fn w_toModel 0 [(v 0)]), (fn w_toSwing 0 [(v 1), (v 2)]), (fn w_toSwing 1 [(v 1), (v 2)]), (fn w_toGrads 0 [(v 3), (v 4), (v 5)]), (fn w_toGrads 1 [(v 3), (v 4), (v 5)]), (fn w_toGrads 2 [(v 3), (v 4), (v 5)]), (v 6), (v 7)]), (fn s_SwingStep 2 [(fn w_toModel 0 [(v 0)]), (fn w_toSwing 0 [(v 1), (v 2)]), (fn w_toSwing 1 [(v 1), (v 2)]), (fn w_toGrads 0 [(v 3), (v 4), (v 5)]), (fn w_toGrads 1 [(v 3), (v 4), (v 5)]), (fn w_toGrads 2 [(v 3), (v 4), (v 5)]), (v 6), (v 7)])] <|
     .need (ro (nt (fn w_eqModel 0 [(fn i_SwingStep 0 [(fn w_toModel 0 [(v 0)]), (fn w_toSwing 0 [(v 1), (v 2)]), (fn w_toSwing 1 [(v 1), (v 2)]), (fn w_toGrads 0 [(v 3), (v 4), (v 5)]), (fn w_toGrads 1 [(v 3), (v 4), (v 5)]), (fn w_toGrads 2 [(v 3), (v 4), (v 5)]), (v 6), (v 7)]), (fn s_SwingStep 0 [(fn w_toModel 0 [(v 0)]), (fn w_toSwing 0 [(v 1), (v 2)]), (fn w_toSwing 1 [(v 1), (v 2)]), (fn w_toGrads 0 [(v 3), (v 4), (v 5)]), (fn w_toGrads 1 [(v 3), (v 4), (v 5)]), (fn w_toGrads 2 [(v 3), (v 4), (v 5)]), (v 6), (v 7)])])) (nt (nt (fn w_eqModel 0 [(fn i_SwingStep 0 [(fn w_toModel 0 [(v 0)]), (fn w_toSwing 0 [(v 1), (v 2)]), (fn w_toSwing 1 [(v 1), (v 2)]), (fn w_toGrads 0 [(v 3), (v 4), (v 5)]), (fn w_toGrads 1 [(v 3), (v 4), (v 5)]), (fn w_toGrads 2 [(v 3), (v 4), (v 5)]), (v 6), (v 7)]), (fn s_SwingStep 0 [(fn w_toModel 0 [(v 0)]), (fn w_toSwing 0 [(v 1), (v 2)]), (fn w_toSwing 1 [(v 1), (v 2)]), (fn w_toGrads 0 [(v 3), (v 4), (v 5)]), (fn w_toGrads 1 [(v 3), (v 4), (v 5)]), (fn w_toGrads 2 [(v 3), (v 4), (v 5)]), (v 6), (v 7)])])))) <|
     .need (ro (it (nt (fn w_eqModel 0 [(fn i_SwingStep 0 [(fn w_toModel 0 [(v 0)]), (fn w_toSwing 0 [(v 1), (v 2)]), (fn w_toSwing 1 [(v 1), (v 2)]), (fn w_toGrads 0 [(v 3), (v 4), (v 5)]), (fn w_toGrads 1 [(v 3), (v 4), (v 5)]), (fn w_toGrads 2 [(v 3), (v 4), (v 5)]), (v 6), (v 7)]), (fn s_SwingStep 0 [(fn w_toModel 0 [(v 0)]), (fn w_toSwing 0 [(v 1), (v 2)]), (fn w_toSwing 1 [(v 1), (v 2)]), (fn w_toGrads 0 [(v 3), (v 4), (v 5)]), (fn w_toGrads 1 [(v 3), (v 4), (v 5)]), (fn w_toGrads 2 [(v 3), (v 4), (v 5)]), (v 6), (v 7)])])) tt (nt (fn w_eqSwing 0 [(fn i_SwingStep 1 [(fn w_toModel 0 [(v 0)]), (fn w_toSwing 0 [(v 1), (v 2)]), (fn w_toSwing 1 [(v 1), (v 2)]), (fn w_toGrads 0 [(v 3), (v 4), (v 5)]), (fn w_toGrads 1 [(v 3), (v 4), (v 5)]), (fn w_toGrads 2 [(v 3), (v 4), (v 5)]), (v 6), (v 7)]), (fn i_SwingStep 2 [(fn w_toModel 0 [(v 0)]), (fn w_toSwing 0 [(v 1), (v 2)]), (fn w_toSwing 1 [(v 1), (v 2)]), (fn w_toGrads 0 [(v 3), (v 4), (v 5)]), (fn w_toGrads 1 [(v 3), (v 4), (v 5)]), (fn w_toGrads 2 [(v 3), (v 4), (v 5)]), (v 6), (v 7)]), (fn s_SwingStep 1 [(fn w_toModel 0 [(v 0)]), (fn w_toSwing 0 [(v 1), (v 2)]), (fn w_toSwing 1 [(v 1), (v 2)]), (fn w_toGrads 0 [(v 3), (v 4), (v 5)]), (fn w_toGrads 1 [(v 3), (v 4), (v 5)]), (fn w_toGrads 2 [(v 3), (v 4), (v 5)]), (v 6), (v 7)]), (fn s_SwingStep 2 [(fn w_toModel 0 [(v 0)]), (fn w_toSwing 0 [(v 1), (v 2)]), (fn w_toSwing 1 [(v 1), (v 2)]), (fn w_toGrads 0 [(v 3), (v 4), (v 5)]), (fn w_toGrads 1 [(v 3), (v 4), (v 5)]), (fn w_toGrads 2 [(v 3), (v 4), (v 5)]), (v 6), (v 7)])]))) (nt (it (nt (fn w_eqModel 0 [(fn i_SwingStep 0 [(fn w_toModel 0 [(v 0)]), (fn w_toSwing 0 [(v 1), (v 2)]), (fn w_toSwing 1 [(v 1), (v 2)]), (fn w_toGrads 0 [(v 3), (v 4), (v 5)]), (fn w_toGrads 1 [(v 3), (v 4), (v 5)]), (fn w_toGrads 2 [(v 3), (v 4), (v 5)]), (v 6), (v 7)]), (fn s_SwingStep 0 [(fn w_toModel 0 [(v 0)]), (fn w_toSwing 0 [(v 1), (v 2)]), (fn w_toSwing 1 [(v 1), (v 2)]), (fn w_toGrads 0 [(v 3), (v 4), (v 5)]), (fn w_toGrads 1 [(v 3), (v 4), (v 5)]), (fn w_toGrads 2 [(v 3), (v 4), (v 5)]), (v 6), (v 7)])])) tt (nt (fn w_eqSwing 0 [(fn i_SwingStep 1 [(fn w_toModel 0 [(v 0)]), (fn w_toSwing 0 [(v 1), (v 2)]), (fn w_toSwing 1 [(v 1), (v 2)]), (fn w_toGrads 0 [(v 3), (v 4), (v 5)]), (fn w_toGrads 1 [(v 3), (v 4), (v 5)]), (fn w_toGrads 2 [(v 3), (v 4), (v 5)]), (v 6), (v 7)]), (fn i_SwingStep 2 [(fn w_toModel 0 [(v 0)]), (fn w_toSwing 0 [(v 1), (v 2)]), (fn w_toSwing 1 [(v 1), (v 2)]), (fn w_toGrads 0 [(v 3), (v 4), (v 5)]), (fn w_toGrads 1 [(v 3), (v 4), (v 5)]), (fn w_toGrads 2 [(v 3), (v 4), (v 5)]), (v 6), (v 7)]), (fn s_SwingStep 1 [(fn w_toModel 0 [(v 0)]), (fn w_toSwing 0 [(v 1), (v 2)]), (fn w_toSwing 1 [(v 1), (v 2)]), (fn w_toGrads 0 [(v 3), (v 4), (v 5)]), (fn w_toGrads 1 [(v 3), (v 4), (v 5)]), (fn w_toGrads 2 [(v 3), (v 4), (v 5)]), (v 6), (v 7)]), (fn s_SwingStep 2 [(fn w_toModel 0 [(v 0)]), (fn w_toSwing 0 [(v 1), (v 2)]), (fn w_toSwing 1 [(v 1), (v 2)]), (fn w_toGrads 0 [(v 3), (v 4), (v 5)]), (fn w_toGrads 1 [(v 3), (v 4), (v 5)]), (fn w_toGrads 2 [(v 3), (v 4), (v 5)]), (v 6), (v 7)])]))))) <|
     .ite (it (it (nt (fn w_eqModel 0 [(fn i_SwingStep 0 [(fn w_toModel 0 [(v 0)]), (fn w_toSwing 0 [(v 1), (v 2)]), (fn w_toSwing 1 [(v 1), (v 2)]), (fn w_toGrads 0 [(v 3), (v 4), (v 5)]), (fn w_toGrads 1 [(v 3), (v 4), (v 5)]), (fn w_toGrads 2 [(v 3), (v 4), (v 5)]), (v 6), (v 7)]), (fn s_SwingStep 0 [(fn w_toModel 0 [(v 0)]), (fn w_toSwing 0 [(v 1), (v 2)]), (fn w_toSwing 1 [(v 1), (v 2)]), (fn w_toGrads 0 [(v 3), (v 4), (v 5)]), (fn w_toGrads 1 [(v 3), (v 4), (v 5)]), (fn w_toGrads 2 [(v 3), (v 4), (v 5)]), (v 6), (v 7)])])) tt (nt (fn w_eqSwing 0 [(fn i_SwingStep 1 [(fn w_toModel 0 [(v 0)]), (fn w_toSwing 0 [(v 1), (v 2)]), (fn w_toSwing 1 [(v 1), (v 2)]), (fn w_toGrads 0 [(v 3), (v 4), (v 5)]), (fn w_toGrads 1 [(v 3), (v 4), (v 5)]), (fn w_toGrads 2 [(v 3), (v 4), (v 5)]), (v 6), (v 7)]), (fn i_SwingStep 2 [(fn w_toModel 0 [(v 0)]), (fn w_toSwing 0 [(v 1), (v 2)]), (fn w_toSwing 1 [(v 1), (v 2)]), (fn w_toGrads 0 [(v 3), (v 4), (v 5)]), (fn w_toGrads 1 [(v 3), (v 4), (v 5)]), (fn w_toGrads 2 [(v 3), (v 4), (v 5)]), (v 6), (v 7)]), (fn s_SwingStep 1 [(fn w_toModel 0 [(v 0)]), (fn w_toSwing 0 [(v 1), (v 2)]), (fn w_toSwing 1 [(v 1), (v 2)]), (fn w_toGrads 0 [(v 3), (v 4), (v 5)]), (fn w_toGrads 1 [(v 3), (v 4), (v 5)]), (fn w_toGrads 2 [(v 3), (v 4), (v 5)]), (v 6), (v 7)]), (fn s_SwingStep 2 [(fn w_toModel 0 [(v 0)]), (fn w_toSwing 0 [(v 1), (v 2)]), (fn w_toSwing 1 [(v 1), (v 2)]), (fn w_toGrads 0 [(v 3), (v 4), (v 5)]), (fn w_toGrads 1 [(v 3), (v 4), (v 5)]), (fn w_toGrads 2 [(v 3), (v 4), (v 5)]), (v 6), (v 7)])]))) tt (nt (ap (.eqb) [(fn i_SwingStep 3 [(fn w_toModel 0 [(v 0)]), (fn w_toSwing 0 [(v 1), (v 2)]), (fn w_toSwing 1 [(v 1), (v 2)]), (fn w_toGrads 0 [(v 3), (v 4), (v 5)]), (fn w_toGrads 1 [(v 3), (v 4), (v 5)]), (fn w_toGrads 2 [(v 3), (v 4), (v 5)]), (v 6), (v 7)]), (fn s_SwingStep 3 [(fn w_toModel 0 [(v 0)]), (fn w_toSwing 0 [(v 1), (v 2)]), (fn w_toSwing 1 [(v 1), (v 2)]), (fn w_toGrads 0 [(v 3), (v 4), (v 5)]), (fn w_toGrads 1 [(v 3), (v 4), (v 5)]), (fn w_toGrads 2 [(v 3), (v 4), (v 5)]), (v 6), (v 7)])])))
     (.ret [ff])
     (ask w_toModel [(v 0)] <|
      ask w_eqModel [(fn w_toModel 0 [(v 0)]), (fn w_toModel 0 [(v 0)])] <|
      .ite (nt (fn w_eqModel 0 [(fn w_toModel 0 [(v 0)]), (fn w_toModel 0 [(v 0)])]))
      (.ret [ff])
      (ask w_toSwing [(v 1), (v 2)] <|
       ask w_eqSwing [(fn w_toSwing 0 [(v 1), (v 2)]), (fn w_toSwing 1 [(v 1), (v 2)]), (fn w_toSwing 0 [(v 1), (v 2)]), (fn w_toSwing 1 [(v 1), (v 2)])] <|
       .ite (nt (fn w_eqSwing 0 [(fn w_toSwing 0 [(v 1), (v 2)]), (fn w_toSwing 1 [(v 1), (v 2)]), (fn w_toSwing 0 [(v 1), (v 2)]), (fn w_toSwing 1 [(v 1), (v 2)])]))
       (.ret [ff])
       (ask w_toGrads [(v 3), (v 4), (v 5)] <|
        ask w_eqGrads [(fn w_toGrads 0 [(v 3), (v 4), (v 5)]), (fn w_toGrads 1 [(v 3), (v 4), (v 5)]), (fn w_toGrads 2 [(v 3), (v 4), (v 5)]), (fn w_toGrads 0 [(v 3), (v 4), (v 5)]), (fn w_toGrads 1 [(v 3), (v 4), (v 5)]), (fn w_toGrads 2 [(v 3), (v 4), (v 5)])] <|
        .ite (nt (fn w_eqGrads 0 [(fn w_toGrads 0 [(v 3), (v 4), (v 5)]), (fn w_toGrads 1 [(v 3), (v 4), (v 5)]), (fn w_toGrads 2 [(v 3), (v 4), (v 5)]), (fn w_toGrads 0 [(v 3), (v 4), (v 5)]), (fn w_toGrads 1 [(v 3), (v 4), (v 5)]), (fn w_toGrads 2 [(v 3), (v 4), (v 5)])]))
        (.ret [ff])
        (ask w_markModel [(fn w_toModel 0 [(v 0)]), (n 1)] <|
         ask w_markSwing [(fn w_toSwing 0 [(v 1), (v 2)]), (fn w_toSwing 1 [(v 1), (v 2)]), (fn w_markModel 0 [(fn w_toModel 0 [(v 0)]), (n 1)])] <|
         ask w_markGrads [(fn w_toGrads 0 [(v 3), (v 4), (v 5)]), (fn w_toGrads 1 [(v 3), (v 4), (v 5)]), (fn w_toGrads 2 [(v 3), (v 4), (v 5)]), (fn w_markSwing 0 [(fn w_toSwing 0 [(v 1), (v 2)]), (fn w_toSwing 1 [(v 1), (v 2)]), (fn w_markModel 0 [(fn w_toModel 0 [(v 0)]), (n 1)])])] <|
         .ask (nt (lt (fn w_markGrads 0 [(fn w_toGrads 0 [(v 3), (v 4), (v 5)]), (fn w_toGrads 1 [(v 3), (v 4), (v 5)]), (fn w_toGrads 2 [(v 3), (v 4), (v 5)]), (fn w_markSwing 0 [(fn w_toSwing 0 [(v 1), (v 2)]), (fn w_toSwing 1 [(v 1), (v 2)]), (fn w_markModel 0 [(fn w_toModel 0 [(v 0)]), (n 1)])])]) (n 0))) w_eqModel [(fn i_SwingStep 0 [(fn w_toModel 0 [(v 0)]), (fn w_toSwing 0 [(v 1), (v 2)]), (fn w_toSwing 1 [(v 1), (v 2)]), (fn w_toGrads 0 [(v 3), (v 4), (v 5)]), (fn w_toGrads 1 [(v 3), (v 4), (v 5)]), (fn w_toGrads 2 [(v 3), (v 4), (v 5)]), (v 6), (v 7)]), (fn s_SwingStep 0 [(fn w_toModel 0 [(v 0)]), (fn w_toSwing 0 [(v 1), (v 2)]), (fn w_toSwing 1 [(v 1), (v 2)]), (fn w_toGrads 0 [(v 3), (v 4), (v 5)]), (fn w_toGrads 1 [(v 3), (v 4), (v 5)]), (fn w_toGrads 2 [(v 3), (v 4), (v 5)]), (v 6), (v 7)])] <|
         .need (ro (lt (fn w_markGrads 0 [(fn w_toGrads 0 [(v 3), (v 4), (v 5)]), (fn w_toGrads 1 [(v 3), (v 4), (v 5)]), (fn w_toGrads 2 [(v 3), (v 4), (v 5)]), (fn w_markSwing 0 [(fn w_toSwing 0 [(v 1), (v 2)]), (fn w_toSwing 1 [(v 1), (v 2)]), (fn w_markModel 0 [(fn w_toModel 0 [(v 0)]), (n 1)])])]) (n 0)) (nt (lt (fn w_markGrads 0 [(fn w_toGrads 0 [(v 3), (v 4), (v 5)]), (fn w_toGrads 1 [(v 3), (v 4), (v 5)]), (fn w_toGrads 2 [(v 3), (v 4), (v 5)]), (fn w_markSwing 0 [(fn w_toSwing 0 [(v 1), (v 2)]), (fn w_toSwing 1 [(v 1), (v 2)]), (fn w_markModel 0 [(fn w_toModel 0 [(v 0)]), (n 1)])])]) (n 0)))) <|
         .ask (nt (it (lt (fn w_markGrads 0 [(fn w_toGrads 0 [(v 3), (v 4), (v 5)]), (fn w_toGrads 1 [(v 3), (v 4), (v 5)]), (fn w_toGrads 2 [(v 3), (v 4), (v 5)]), (fn w_markSwing 0 [(fn w_toSwing 0 [(v 1), (v 2)]), (fn w_toSwing 1 [(v 1), (v 2)]), (fn w_markModel 0 [(fn w_toModel 0 [(v 0)]), (n 1)])])]) (n 0)) tt (nt (fn w_eqModel 0 [(fn i_SwingStep 0 [(fn w_toModel 0 [(v 0)]), (fn w_toSwing 0 [(v 1), (v 2)]), (fn w_toSwing 1 [(v 1), (v 2)]), (fn w_toGrads 0 [(v 3), (v 4), (v 5)]), (fn w_toGrads 1 [(v 3), (v 4), (v 5)]), (fn w_toGrads 2 [(v 3), (v 4), (v 5)]), (v 6), (v 7)]), (fn s_SwingStep 0 [(fn w_toModel 0 [(v 0)]), (fn w_toSwing 0 [(v 1), (v 2)]), (fn w_toSwing 1 [(v 1), (v 2)]), (fn w_toGrads 0 [(v 3), (v 4), (v 5)]), (fn w_toGrads 1 [(v 3), (v 4), (v 5)]), (fn w_toGrads 2 [(v 3), (v 4), (v 5)]), (v 6), (v 7)])])))) w_eqSwing [(fn i_SwingStep 1 [(fn w_toModel 0 [(v 0)]), (fn w_toSwing 0 [(v 1), (v 2)]), (fn w_toSwing 1 [(v 1), (v 2)]), (fn w_toGrads 0 [(v 3), (v 4), (v 5)]), (fn w_toGrads 1 [(v 3), (v 4), (v 5)]), (fn w_toGrads 2 [(v 3), (v 4), (v 5)]), (v 6), (v 7)]), (fn i_SwingStep 2 [(fn w_toModel 0 [(v 0)]), (fn w_toSwing 0 [(v 1), (v 2)]), (fn w_toSwing 1 [(v 1), (v 2)]), (fn w_toGrads 0 [(v 3), (v 4), (v 5)]), (fn w_toGrads 1 [(v 3), (v 4), (v 5)]), (fn w_toGrads 2 [(v 3), (v 4), (v 5)]), (v 6), (v 7)]), (fn s_SwingStep 1 [(fn w_toModel 0 [(v 0)]), (fn w_toSwing 0 [(v 1), (v 2)]), (fn w_toSwing 1 [(v 1), (v 2)]), (fn w_toGrads 0 [(v 3), (v 4), (v 5)]), (fn w_toGrads 1 [(v 3), (v 4), (v 5)]), (fn w_toGrads 2 [(v 3), (v 4), (v 5)]), (v 6), (v 7)]), (fn s_SwingStep 2 [(fn w_toModel 0 [(v 0)]), (fn w_toSwing 0 [(v 1), (v 2)]), (fn w_toSwing 1 [(v 1), (v 2)]), (fn w_toGrads 0 [(v 3), (v 4), (v 5)]), (fn w_toGrads 1 [(v 3), (v 4), (v 5)]), (fn w_toGrads 2 [(v 3), (v 4), (v 5)]), (v 6), (v 7)])] <|
         .need (ro (it (lt (fn w_markGrads 0 [(fn w_toGrads 0 [(v 3), (v 4), (v 5)]), (fn w_toGrads 1 [(v 3), (v 4), (v 5)]), (fn w_toGrads 2 [(v 3), (v 4), (v 5)]), (fn w_markSwing 0 [(fn w_toSwing 0 [(v 1), (v 2)]), (fn w_toSwing 1 [(v 1), (v 2)]), (fn w_markModel 0 [(fn w_toModel 0 [(v 0)]), (n 1)])])]) (n 0)) tt (nt (fn w_eqModel 0 [(fn i_SwingStep 0 [(fn w_toModel 0 [(v 0)]), (fn w_toSwing 0 [(v 1), (v 2)]), (fn w_toSwing 1 [(v 1), (v 2)]), (fn w_toGrads 0 [(v 3), (v 4), (v 5)]), (fn w_toGrads 1 [(v 3), (v 4), (v 5)]), (fn w_toGrads 2 [(v 3), (v 4), (v 5)]), (v 6), (v 7)]), (fn s_SwingStep 0 [(fn w_toModel 0 [(v 0)]), (fn w_toSwing 0 [(v 1), (v 2)]), (fn w_toSwing 1 [(v 1), (v 2)]), (fn w_toGrads 0 [(v 3), (v 4), (v 5)]), (fn w_toGrads 1 [(v 3), (v 4), (v 5)]), (fn w_toGrads 2 [(v 3), (v 4), (v 5)]), (v 6), (v 7)])]))) (nt (it (lt (fn w_markGrads 0 [(fn w_toGrads 0 [(v 3), (v 4), (v 5)]), (fn w_toGrads 1 [(v 3), (v 4), (v 5)]), (fn w_toGrads 2 [(v 3), (v 4), (v 5)]), (fn w_markSwing 0 [(fn w_toSwing 0 [(v 1), (v 2)]), (fn w_toSwing 1 [(v 1), (v 2)]), (fn w_markModel 0 [(fn w_toModel 0 [(v 0)]), (n 1)])])]) (n 0)) tt (nt (fn w_eqModel 0 [(fn i_SwingStep 0 [(fn w_toModel 0 [(v 0)]), (fn w_toSwing 0 [(v 1), (v 2)]), (fn w_toSwing 1 [(v 1), (v 2)]), (fn w_toGrads 0 [(v 3), (v 4), (v 5)]), (fn w_toGrads 1 [(v 3), (v 4), (v 5)]), (fn w_toGrads 2 [(v 3), (v 4), (v 5)]), (v 6), (v 7)]), (fn s_SwingStep 0 [(fn w_toModel 0 [(v 0)]), (fn w_toSwing 0 [(v 1), (v 2)]), (fn w_toSwing 1 [(v 1), (v 2)]), (fn w_toGrads 0 [(v 3), (v 4), (v 5)]), (fn w_toGrads 1 [(v 3), (v 4), (v 5)]), (fn w_toGrads 2 [(v 3), (v 4), (v 5)]), (v 6), (v 7)])]))))) <|
         .need (ro (it (it (lt (fn w_markGrads 0 [(fn w_toGrads 0 [(v 3), (v 4), (v 5)]), (fn w_toGrads 1 [(v 3), (v 4), (v 5)]), (fn w_toGrads 2 [(v 3), (v 4), (v 5)]), (fn w_markSwing 0 [(fn w_toSwing 0 [(v 1), (v 2)]), (fn w_toSwing 1 [(v 1), (v 2)]), (fn w_markModel 0 [(fn w_toModel 0 [(v 0)]), (n 1)])])]) (n 0)) tt (nt (fn w_eqModel 0 [(fn i_SwingStep 0 [(fn w_toModel 0 [(v 0)]), (fn w_toSwing 0 [(v 1), (v 2)]), (fn w_toSwing 1 [(v 1), (v 2)]), (fn w_toGrads 0 [(v 3), (v 4), (v 5)]), (fn w_toGrads 1 [(v 3), (v 4), (v 5)]), (fn w_toGrads 2 [(v 3), (v 4), (v 5)]), (v 6), (v 7)]), (fn s_SwingStep 0 [(fn w_toModel 0 [(v 0)]), (fn w_toSwing 0 [(v 1), (v 2)]), (fn w_toSwing 1 [(v 1), (v 2)]), (fn w_toGrads 0 [(v 3), (v 4), (v 5)]), (fn w_toGrads 1 [(v 3), (v 4), (v 5)]), (fn w_toGrads 2 [(v 3), (v 4), (v 5)]), (v 6), (v 7)])]))) tt (nt (fn w_eqSwing 0 [(fn i_SwingStep 1 [(fn w_toModel 0 [(v 0)]), (fn w_toSwing 0 [(v 1), (v 2)]), (fn w_toSwing 1 [(v 1), (v 2)]), (fn w_toGrads 0 [(v 3), (v 4), (v 5)]), (fn w_toGrads 1 [(v 3), (v 4), (v 5)]), (fn w_toGrads 2 [(v 3), (v 4), (v 5)]), (v 6), (v 7)]), (fn i_SwingStep 2 [(fn w_toModel 0 [(v 0)]), (fn w_toSwing 0 [(v 1), (v 2)]), (fn w_toSwing 1 [(v 1), (v 2)]), (fn w_toGrads 0 [(v 3), (v 4), (v 5)]), (fn w_toGrads 1 [(v 3), (v 4), (v 5)]), (fn w_toGrads 2 [(v 3), (v 4), (v 5)]), (v 6), (v 7)]), (fn s_SwingStep 1 [(fn w_toModel 0 [(v 0)]), (fn w_toSwing 0 [(v 1), (v 2)]), (fn w_toSwing 1 [(v 1), (v 2)]), (fn w_toGrads 0 [(v 3), (v 4), (v 5)]), (fn w_toGrads 1 [(v 3), (v 4), (v 5)]), (fn w_toGrads 2 [(v 3), (v 4), (v 5)]), (v 6), (v 7)]), (fn s_SwingStep 2 [(fn w_toModel 0 [(v 0)]), (fn w_toSwing 0 [(v 1), (v 2)]), (fn w_toSwing 1 [(v 1), (v 2)]), (fn w_toGrads 0 [(v 3), (v 4), (v 5)]), (fn w_toGrads 1 [(v 3), (v 4), (v 5)]), (fn w_toGrads 2 [(v 3), (v 4), (v 5)]), (v 6), (v 7)])]))) (nt (it (it (lt (fn w_markGrads 0 [(fn w_toGrads 0 [(v 3), (v 4), (v 5)]), (fn w_toGrads 1 [(v 3), (v 4), (v 5)]), (fn w_toGrads 2 [(v 3), (v 4), (v 5)]), (fn w_markSwing 0 [(fn w_toSwing 0 [(v 1), (v 2)]), (fn w_toSwing 1 [(v 1), (v 2)]), (fn w_markModel 0 [(fn w_toModel 0 [(v 0)]), (n 1)])])]) (n 0)) tt (nt (fn w_eqModel 0 [(fn i_SwingStep 0 [(fn w_toModel 0 [(v 0)]), (fn w_toSwing 0 [(v 1), (v 2)]), (fn w_toSwing 1 [(v 1), (v 2)]), (fn w_toGrads 0 [(v 3), (v 4), (v 5)]), (fn w_toGrads 1 [(v 3), (v 4), (v 5)]), (fn w_toGrads 2 [(v 3), (v 4), (v 5)]), (v 6), (v 7)]), (fn s_SwingStep 0 [(fn w_toModel 0 [(v 0)]), (fn w_toSwing 0 [(v 1), (v 2)]), (fn w_toSwing 1 [(v 1), (v 2)]), (fn w_toGrads 0 [(v 3), (v 4), (v 5)]), (fn w_toGrads 1 [(v 3), (v 4), (v 5)]), (fn w_toGrads 2 [(v 3), (v 4), (v 5)]), (v 6), (v 7)])]))) tt (nt (fn w_eqSwing 0 [(fn i_SwingStep 1 [(fn w_toModel 0 [(v 0)]), (fn w_toSwing 0 [(v 1), (v 2)]), (fn w_toSwing 1 [(v 1), (v 2)]), (fn w_toGrads 0 [(v 3), (v 4), (v 5)]), (fn w_toGrads 1 [(v 3), (v 4), (v 5)]), (fn w_toGrads 2 [(v 3), (v 4), (v 5)]), (v 6), (v 7)]), (fn i_SwingStep 2 [(fn w_toModel 0 [(v 0)]), (fn w_toSwing 0 [(v 1), (v 2)]), (fn w_toSwing 1 [(v 1), (v 2)]), (fn w_toGrads 0 [(v 3), (v 4), (v 5)]), (fn w_toGrads 1 [(v 3), (v 4), (v 5)]), (fn w_toGrads 2 [(v 3), (v 4), (v 5)]), (v 6), (v 7)]), (fn s_SwingStep 1 [(fn w_toModel 0 [(v 0)]), (fn w_toSwing 0 [(v 1), (v 2)]), (fn w_toSwing 1 [(v 1), (v 2)]), (fn w_toGrads 0 [(v 3), (v 4), (v 5)]), (fn w_toGrads 1 [(v 3), (v 4), (v 5)]), (fn w_toGrads 2 [(v 3), (v 4), (v 5)]), (v 6), (v 7)]), (fn s_SwingStep 2 [(fn w_toModel 0 [(v 0)]), (fn w_toSwing 0 [(v 1), (v 2)]), (fn w_toSwing 1 [(v 1), (v 2)]), (fn w_toGrads 0 [(v 3), (v 4), (v 5)]), (fn w_toGrads 1 [(v 3), (v 4), (v 5)]), (fn w_toGrads 2 [(v 3), (v 4), (v 5)]), (v 6), (v 7)])]))))) <|
         .ite (it (it (it (lt (fn w_markGrads 0 [(fn w_toGrads 0 [(v 3), (v 4), (v 5)]), (fn w_toGrads 1 [(v 3), (v 4), (v 5)]), (fn w_toGrads 2 [(v 3), (v 4), (v 5)]), (fn w_markSwing 0 [(fn w_toSwing 0 [(v 1), (v 2)]), (fn w_toSwing 1 [(v 1), (v 2)]), (fn w_markModel 0 [(fn w_toModel 0 [(v 0)]), (n 1)])])]) (n 0)) tt (nt (fn w_eqModel 0 [(fn i_SwingStep 0 [(fn w_toModel 0 [(v 0)]), (fn w_toSwing 0 [(v 1), (v 2)]), (fn w_toSwing 1 [(v 1), (v 2)]), (fn w_toGrads 0 [(v 3), (v 4), (v 5)]), (fn w_toGrads 1 [(v 3), (v 4), (v 5)]), (fn w_toGrads 2 [(v 3), (v 4), (v 5)]), (v 6), (v 7)]), (fn s_SwingStep 0 [(fn w_toModel 0 [(v 0)]), (fn w_toSwing 0 [(v 1), (v 2)]), (fn w_toSwing 1 [(v 1), (v 2)]), (fn w_toGrads 0 [(v 3), (v 4), (v 5)]), (fn w_toGrads 1 [(v 3), (v 4), (v 5)]), (fn w_toGrads 2 [(v 3), (v 4), (v 5)]), (v 6), (v 7)])]))) tt (nt (fn w_eqSwing 0 [(fn i_SwingStep 1 [(fn w_toModel 0 [(v 0)]), (fn w_toSwing 0 [(v 1), (v 2)]), (fn w_toSwing 1 [(v 1), (v 2)]), (fn w_toGrads 0 [(v 3), (v 4), (v 5)]), (fn w_toGrads 1 [(v 3), (v 4), (v 5)]), (fn w_toGrads 2 [(v 3), (v 4), (v 5)]), (v 6), (v 7)]), (fn i_SwingStep 2 [(fn w_toModel 0 [(v 0)]), (fn w_toSwing 0 [(v 1), (v 2)]), (fn w_toSwing 1 [(v 1), (v 2)]), (fn w_toGrads 0 [(v 3), (v 4), (v 5)]), (fn w_toGrads 1 [(v 3), (v 4), (v 5)]), (fn w_toGrads 2 [(v 3), (v 4), (v 5)]), (v 6), (v 7)]), (fn s_SwingStep 1 [(fn w_toModel 0 [(v 0)]), (fn w_toSwing 0 [(v 1), (v 2)]), (fn w_toSwing 1 [(v 1), (v 2)]), (fn w_toGrads 0 [(v 3), (v 4), (v 5)]), (fn w_toGrads 1 [(v 3), (v 4), (v 5)]), (fn w_toGrads 2 [(v 3), (v 4), (v 5)]), (v 6), (v 7)]), (fn s_SwingStep 2 [(fn w_toModel 0 [(v 0)]), (fn w_toSwing 0 [(v 1), (v 2)]), (fn w_toSwing 1 [(v 1), (v 2)]), (fn w_toGrads 0 [(v 3), (v 4), (v 5)]), (fn w_toGrads 1 [(v 3), (v 4), (v 5)]), (fn w_toGrads 2 [(v 3), (v 4), (v 5)]), (v 6), (v 7)])]))) tt (nt (ap (.eqb) [(fn i_SwingStep 3 [(fn w_toModel 0 [(v 0)]), (fn w_toSwing 0 [(v 1), (v 2)]), (fn w_toSwing 1 [(v 1), (v 2)]), (fn w_toGrads 0 [(v 3), (v 4), (v 5)]), (fn w_toGrads 1 [(v 3), (v 4), (v 5)]), (fn w_toGrads 2 [(v 3), (v 4), (v 5)]), (v 6), (v 7)]), (fn s_SwingStep 3 [(fn w_toModel 0 [(v 0)]), (fn w_toSwing 0 [(v 1), (v 2)]), (fn w_toSwing 1 [(v 1), (v 2)]), (fn w_toGrads 0 [(v 3), (v 4), (v 5)]), (fn w_toGrads 1 [(v 3), (v 4), (v 5)]), (fn w_toGrads 2 [(v 3), (v 4), (v 5)]), (v 6), (v 7)])])))
         (.ret [ff])
         (ask w_markModel [(fn i_SwingStep 0 [(fn w_toModel 0 [(v 0)]), (fn w_toSwing 0 [(v 1), (v 2)]), (fn w_toSwing 1 [(v 1), (v 2)]), (fn w_toGrads 0 [(v 3), (v 4), (v 5)]), (fn w_toGrads 1 [(v 3), (v 4), (v 5)]), (fn w_toGrads 2 [(v 3), (v 4), (v 5)]), (v 6), (v 7)]), (n 1)] <|
          ask w_markSwing [(fn i_SwingStep 1 [(fn w_toModel 0 [(v 0)]), (fn w_toSwing 0 [(v 1), (v 2)]), (fn w_toSwing 1 [(v 1), (v 2)]), (fn w_toGrads 0 [(v 3), (v 4), (v 5)]), (fn w_toGrads 1 [(v 3), (v 4), (v 5)]), (fn w_toGrads 2 [(v 3), (v 4), (v 5)]), (v 6), (v 7)]), (fn i_SwingStep 2 [(fn w_toModel 0 [(v 0)]), (fn w_toSwing 0 [(v 1), (v 2)]), (fn w_toSwing 1 [(v 1), (v 2)]), (fn w_toGrads 0 [(v 3), (v 4), (v 5)]), (fn w_toGrads 1 [(v 3), (v 4), (v 5)]), (fn w_toGrads 2 [(v 3), (v 4), (v 5)]), (v 6), (v 7)]), (fn w_markModel 0 [(fn i_SwingStep 0 [(fn w_toModel 0 [(v 0)]), (fn w_toSwing 0 [(v 1), (v 2)]), (fn w_toSwing 1 [(v 1), (v 2)]), (fn w_toGrads 0 [(v 3), (v 4), (v 5)]), (fn w_toGrads 1 [(v 3), (v 4), (v 5)]), (fn w_toGrads 2 [(v 3), (v 4), (v 5)]), (v 6), (v 7)]), (n 1)])] <|
          ask w_heldModel [(fn w_markModel 1 [(fn i_SwingStep 0 [(fn w_toModel 0 [(v 0)]), (fn w_toSwing 0 [(v 1), (v 2)]), (fn w_toSwing 1 [(v 1), (v 2)]), (fn w_toGrads 0 [(v 3), (v 4), (v 5)]), (fn w_toGrads 1 [(v 3), (v 4), (v 5)]), (fn w_toGrads 2 [(v 3), (v 4), (v 5)]), (v 6), (v 7)]), (n 1)]), (n 1)] <|
          .ite (lt (fn w_heldModel 0 [(fn w_markModel 1 [(fn i_SwingStep 0 [(fn w_toModel 0 [(v 0)]), (fn w_toSwing 0 [(v 1), (v 2)]), (fn w_toSwing 1 [(v 1), (v 2)]), (fn w_toGrads 0 [(v 3), (v 4), (v 5)]), (fn w_toGrads 1 [(v 3), (v 4), (v 5)]), (fn w_toGrads 2 [(v 3), (v 4), (v 5)]), (v 6), (v 7)]), (n 1)]), (n 1)]) (n 0))
          (.ret [ff])
          (ask w_heldSwing [(fn w_markSwing 1 [(fn i_SwingStep 1 [(fn w_toModel 0 [(v 0)]), (fn w_toSwing 0 [(v 1), (v 2)]), (fn w_toSwing 1 [(v 1), (v 2)]), (fn w_toGrads 0 [(v 3), (v 4), (v 5)]), (fn w_toGrads 1 [(v 3), (v 4), (v 5)]), (fn w_toGrads 2 [(v 3), (v 4), (v 5)]), (v 6), (v 7)]), (fn i_SwingStep 2 [(fn w_toModel 0 [(v 0)]), (fn w_toSwing 0 [(v 1), (v 2)]), (fn w_toSwing 1 [(v 1), (v 2)]), (fn w_toGrads 0 [(v 3), (v 4), (v 5)]), (fn w_toGrads 1 [(v 3), (v 4), (v 5)]), (fn w_toGrads 2 [(v 3), (v 4), (v 5)]), (v 6), (v 7)]), (fn w_markModel 0 [(fn i_SwingStep 0 [(fn w_toModel 0 [(v 0)]), (fn w_toSwing 0 [(v 1), (v 2)]), (fn w_toSwing 1 [(v 1), (v 2)]), (fn w_toGrads 0 [(v 3), (v 4), (v 5)]), (fn w_toGrads 1 [(v 3), (v 4), (v 5)]), (fn w_toGrads 2 [(v 3), (v 4), (v 5)]), (v 6), (v 7)]), (n 1)])]), (fn i_SwingStep 2 [(fn w_toModel 0 [(v 0)]), (fn w_toSwing 0 [(v 1), (v 2)]), (fn w_toSwing 1 [(v 1), (v 2)]), (fn w_toGrads 0 [(v 3), (v 4), (v 5)]), (fn w_toGrads 1 [(v 3), (v 4), (v 5)]), (fn w_toGrads 2 [(v 3), (v 4), (v 5)]), (v 6), (v 7)]), (fn w_heldModel 0 [(fn w_markModel 1 [(fn i_SwingStep 0 [(fn w_toModel 0 [(v 0)]), (fn w_toSwing 0 [(v 1), (v 2)]), (fn w_toSwing 1 [(v 1), (v 2)]), (fn w_toGrads 0 [(v 3), (v 4), (v 5)]), (fn w_toGrads 1 [(v 3), (v 4), (v 5)]), (fn w_toGrads 2 [(v 3), (v 4), (v 5)]), (v 6), (v 7)]), (n 1)]), (n 1)])] <|
           .ite (lt (fn w_heldSwing 0 [(fn w_markSwing 1 [(fn i_SwingStep 1 [(fn w_toModel 0 [(v 0)]), (fn w_toSwing 0 [(v 1), (v 2)]), (fn w_toSwing 1 [(v 1), (v 2)]), (fn w_toGrads 0 [(v 3), (v 4), (v 5)]), (fn w_toGrads 1 [(v 3), (v 4), (v 5)]), (fn w_toGrads 2 [(v 3), (v 4), (v 5)]), (v 6), (v 7)]), (fn i_SwingStep 2 [(fn w_toModel 0 [(v 0)]), (fn w_toSwing 0 [(v 1), (v 2)]), (fn w_toSwing 1 [(v 1), (v 2)]), (fn w_toGrads 0 [(v 3), (v 4), (v 5)]), (fn w_toGrads 1 [(v 3), (v 4), (v 5)]), (fn w_toGrads 2 [(v 3), (v 4), (v 5)]), (v 6), (v 7)]), (fn w_markModel 0 [(fn i_SwingStep 0 [(fn w_toModel 0 [(v 0)]), (fn w_toSwing 0 [(v 1), (v 2)]), (fn w_toSwing 1 [(v 1), (v 2)]), (fn w_toGrads 0 [(v 3), (v 4), (v 5)]), (fn w_toGrads 1 [(v 3), (v 4), (v 5)]), (fn w_toGrads 2 [(v 3), (v 4), (v 5)]), (v 6), (v 7)]), (n 1)])]), (fn i_SwingStep 2 [(fn w_toModel 0 [(v 0)]), (fn w_toSwing 0 [(v 1), (v 2)]), (fn w_toSwing 1 [(v 1), (v 2)]), (fn w_toGrads 0 [(v 3), (v 4), (v 5)]), (fn w_toGrads 1 [(v 3), (v 4), (v 5)]), (fn w_toGrads 2 [(v 3), (v 4), (v 5)]), (v 6), (v 7)]), (fn w_heldModel 0 [(fn w_markModel 1 [(fn i_SwingStep 0 [(fn w_toModel 0 [(v 0)]), (fn w_toSwing 0 [(v 1), (v 2)]), (fn w_toSwing 1 [(v 1), (v 2)]), (fn w_toGrads 0 [(v 3), (v 4), (v 5)]), (fn w_toGrads 1 [(v 3), (v 4), (v 5)]), (fn w_toGrads 2 [(v 3), (v 4), (v 5)]), (v 6), (v 7)]), (n 1)]), (n 1)])]) (n 0))
           (.ret [ff])
           (.ite (nt (eq (fn w_heldSwing 0 [(fn w_markSwing 1 [(fn i_SwingStep 1 [(fn w_toModel 0 [(v 0)]), (fn w_toSwing 0 [(v 1), (v 2)]), (fn w_toSwing 1 [(v 1), (v 2)]), (fn w_toGrads 0 [(v 3), (v 4), (v 5)]), (fn w_toGrads 1 [(v 3), (v 4), (v 5)]), (fn w_toGrads 2 [(v 3), (v 4), (v 5)]), (v 6), (v 7)]), (fn i_SwingStep 2 [(fn w_toModel 0 [(v 0)]), (fn w_toSwing 0 [(v 1), (v 2)]), (fn w_toSwing 1 [(v 1), (v 2)]), (fn w_toGrads 0 [(v 3), (v 4), (v 5)]), (fn w_toGrads 1 [(v 3), (v 4), (v 5)]), (fn w_toGrads 2 [(v 3), (v 4), (v 5)]), (v 6), (v 7)]), (fn w_markModel 0 [(fn i_SwingStep 0 [(fn w_toModel 0 [(v 0)]), (fn w_toSwing 0 [(v 1), (v 2)]), (fn w_toSwing 1 [(v 1), (v 2)]), (fn w_toGrads 0 [(v 3), (v 4), (v 5)]), (fn w_toGrads 1 [(v 3), (v 4), (v 5)]), (fn w_toGrads 2 [(v 3), (v 4), (v 5)]), (v 6), (v 7)]), (n 1)])]), (fn i_SwingStep 2 [(fn w_toModel 0 [(v 0)]), (fn w_toSwing 0 [(v 1), (v 2)]), (fn w_toSwing 1 [(v 1), (v 2)]), (fn w_toGrads 0 [(v 3), (v 4), (v 5)]), (fn w_toGrads 1 [(v 3), (v 4), (v 5)]), (fn w_toGrads 2 [(v 3), (v 4), (v 5)]), (v 6), (v 7)]), (fn w_heldModel 0 [(fn w_markModel 1 [(fn i_SwingStep 0 [(fn w_toModel 0 [(v 0)]), (fn w_toSwing 0 [(v 1), (v 2)]), (fn w_toSwing 1 [(v 1), (v 2)]), (fn w_toGrads 0 [(v 3), (v 4), (v 5)]), (fn w_toGrads 1 [(v 3), (v 4), (v 5)]), (fn w_toGrads 2 [(v 3), (v 4), (v 5)]), (v 6), (v 7)]), (n 1)]), (n 1)])]) (fn w_markSwing 0 [(fn i_SwingStep 1 [(fn w_toModel 0 [(v 0)]), (fn w_toSwing 0 [(v 1), (v 2)]), (fn w_toSwing 1 [(v 1), (v 2)]), (fn w_toGrads 0 [(v 3), (v 4), (v 5)]), (fn w_toGrads 1 [(v 3), (v 4), (v 5)]), (fn w_toGrads 2 [(v 3), (v 4), (v 5)]), (v 6), (v 7)]), (fn i_SwingStep 2 [(fn w_toModel 0 [(v 0)]), (fn w_toSwing 0 [(v 1), (v 2)]), (fn w_toSwing 1 [(v 1), (v 2)]), (fn w_toGrads 0 [(v 3), (v 4), (v 5)]), (fn w_toGrads 1 [(v 3), (v 4), (v 5)]), (fn w_toGrads 2 [(v 3), (v 4), (v 5)]), (v 6), (v 7)]), (fn w_markModel 0 [(fn i_SwingStep 0 [(fn w_toModel 0 [(v 0)]), (fn w_toSwing 0 [(v 1), (v 2)]), (fn w_toSwing 1 [(v 1), (v 2)]), (fn w_toGrads 0 [(v 3), (v 4), (v 5)]), (fn w_toGrads 1 [(v 3), (v 4), (v 5)]), (fn w_toGrads 2 [(v 3), (v 4), (v 5)]), (v 6), (v 7)]), (n 1)])])))
            (.ret [ff])
            (ask w_toModel [(v 0)] <|
             ask w_toSwing [(v 1), (v 2)] <|
             ask w_toGrads [(v 3), (v 4), (v 5)] <|
             ask i_SwingStep [(fn w_toModel 0 [(v 0)]), (fn w_toSwing 0 [(v 1), (v 2)]), (fn w_toSwing 1 [(v 1), (v 2)]), (fn w_toGrads 0 [(v 3), (v 4), (v 5)]), (fn w_toGrads 1 [(v 3), (v 4), (v 5)]), (fn w_toGrads 2 [(v 3), (v 4), (v 5)]), (v 6), (v 7)] <|
             ask w_eqModel [(fn i_SwingStep 0 [(fn w_toModel 0 [(v 0)]), (fn w_toSwing 0 [(v 1), (v 2)]), (fn w_toSwing 1 [(v 1), (v 2)]), (fn w_toGrads 0 [(v 3), (v 4), (v 5)]), (fn w_toGrads 1 [(v 3), (v 4), (v 5)]), (fn w_toGrads 2 [(v 3), (v 4), (v 5)]), (v 6), (v 7)]), (fn s_SwingStep 0 [(fn w_toModel 0 [(v 0)]), (fn w_toSwing 0 [(v 1), (v 2)]), (fn w_toSwing 1 [(v 1), (v 2)]), (fn w_toGrads 0 [(v 3), (v 4), (v 5)]), (fn w_toGrads 1 [(v 3), (v 4), (v 5)]), (fn w_toGrads 2 [(v 3), (v 4), (v 5)]), (v 6), (v 7)])] <|
             .ask (nt (nt (fn w_eqModel 0 [(fn i_SwingStep 0 [(fn w_toModel 0 [(v 0)]), (fn w_toSwing 0 [(v 1), (v 2)]), (fn w_toSwing 1 [(v 1), (v 2)]), (fn w_toGrads 0 [(v 3), (v 4), (v 5)]), (fn w_toGrads 1 [(v 3), (v 4), (v 5)]), (fn w_toGrads 2 [(v 3), (v 4), (v 5)]), (v 6), (v 7)]), (fn s_SwingStep 0 [(fn w_toModel 0 [(v 0)]), (fn w_toSwing 0 [(v 1), (v 2)]), (fn w_toSwing 1 [(v 1), (v 2)]), (fn w_toGrads 0 [(v 3), (v 4), (v 5)]), (fn w_toGrads 1 [(v 3), (v 4), (v 5)]), (fn w_toGrads 2 [(v 3), (v 4), (v 5)]), (v 6), (v 7)])]))) w_eqSwing [(fn i_SwingStep 1 [(fn w_toModel 0 [(v 0)]), (fn w_toSwing 0 [(v 1), (v 2)]), (fn w_toSwing 1 [(v 1), (v 2)]), (fn w_toGrads 0 [(v 3), (v 4), (v 5)]), (fn w_toGrads 1 [(v 3), (v 4), (v 5)]), (fn w_toGrads 2 [(v 3), (v 4), (v 5)]), (v 6), (v 7)]), (fn i_SwingStep 2 [(fn w_toModel 0 [(v 0)]), (fn w_toSwing 0 [(v 1), (v 2)]), (fn w_toSwing 1 [(v 1), (v 2)]), (fn w_toGrads 0 [(v 3), (v 4), (v 5)]), (fn w_toGrads 1 [(v 3), (v 4), (v 5)]), (fn w_toGrads 2 [(v 3), (v 4), (v 5)]), (v 6), (v 7)]), (fn s_SwingStep 1 [(fn w_toModel 0 [(v 0)]), (fn w_toSwing 0 [(v 1), (v 2)]), (fn w_toSwing 1 [(v 1), (v 2)]), (fn w_toGrads 0 [(v 3), (v 4), (v 5)]), (fn w_toGrads 1 [(v 3), (v 4), (v 5)]), (fn w_toGrads 2 [(v 3), (v 4), (v 5)]), (v 6), (v 7)]), (fn s_SwingStep 2 [(fn w_toModel 0 [(v 0)]), (fn w_toSwing 0 [(v 1), (v 2)]), (fn w_toSwing 1 [(v 1), (v 2)]), (fn w_toGrads 0 [(v 3), (v 4), (v 5)]), (fn w_toGrads 1 [(v 3), (v 4), (v 5)]), (fn w_toGrads 2 [(v 3), (v 4), (v 5)]), (v 6), (v 7)])] <|
             .need (ro (nt (fn w_eqModel 0 [(fn i_SwingStep 0 [(fn w_toModel 0 [(v 0)]), (fn w_toSwing 0 [(v 1), (v 2)]), (fn w_toSwing 1 [(v 1), (v 2)]), (fn w_toGrads 0 [(v 3), (v 4), (v 5)]), (fn w_toGrads 1 [(v 3), (v 4), (v 5)]), (fn w_toGrads 2 [(v 3), (v 4), (v 5)]), (v 6), (v 7)]), (fn s_SwingStep 0 [(fn w_toModel 0 [(v 0)]), (fn w_toSwing 0 [(v 1), (v 2)]), (fn w_toSwing 1 [(v 1), (v 2)]), (fn w_toGrads 0 [(v 3), (v 4), (v 5)]), (fn w_toGrads 1 [(v 3), (v 4), (v 5)]), (fn w_toGrads 2 [(v 3), (v 4), (v 5)]), (v 6), (v 7)])])) (nt (nt (fn w_eqModel 0 [(fn i_SwingStep 0 [(fn w_toModel 0 [(v 0)]), (fn w_toSwing 0 [(v 1), (v 2)]), (fn w_toSwing 1 [(v 1), (v 2)]), (fn w_toGrads 0 [(v 3), (v 4), (v 5)]), (fn w_toGrads 1 [(v 3), (v 4), (v 5)]), (fn w_toGrads 2 [(v 3), (v 4), (v 5)]), (v 6), (v 7)]), (fn s_SwingStep 0 [(fn w_toModel 0 [(v 0)]), (fn w_toSwing 0 [(v 1), (v 2)]), (fn w_toSwing 1 [(v 1), (v 2)]), (fn w_toGrads 0 [(v 3), (v 4), (v 5)]), (fn w_toGrads 1 [(v 3), (v 4), (v 5)]), (fn w_toGrads 2 [(v 3), (v 4), (v 5)]), (v 6), (v 7)])])))) <|
             .need (ro (it (nt (fn w_eqModel 0 [(fn i_SwingStep 0 [(fn w_toModel 0 [(v 0)]), (fn w_toSwing 0 [(v 1), (v 2)]), (fn w_toSwing 1 [(v 1), (v 2)]), (fn w_toGrads 0 [(v 3), (v 4), (v 5)]), (fn w_toGrads 1 [(v 3), (v 4), (v 5)]), (fn w_toGrads 2 [(v 3), (v 4), (v 5)]), (v 6), (v 7)]), (fn s_SwingStep 0 [(fn w_toModel 0 [(v 0)]), (fn w_toSwing 0 [(v 1), (v 2)]), (fn w_toSwing 1 [(v 1), (v 2)]), (fn w_toGrads 0 [(v 3), (v 4), (v 5)]), (fn w_toGrads 1 [(v 3), (v 4), (v 5)]), (fn w_toGrads 2 [(v 3), (v 4), (v 5)]), (v 6), (v 7)])])) tt (nt (fn w_eqSwing 0 [(fn i_SwingStep 1 [(fn w_toModel 0 [(v 0)]), (fn w_toSwing 0 [(v 1), (v 2)]), (fn w_toSwing 1 [(v 1), (v 2)]), (fn w_toGrads 0 [(v 3), (v 4), (v 5)]), (fn w_toGrads 1 [(v 3), (v 4), (v 5)]), (fn w_toGrads 2 [(v 3), (v 4), (v 5)]), (v 6), (v 7)]), (fn i_SwingStep 2 [(fn w_toModel 0 [(v 0)]), (fn w_toSwing 0 [(v 1), (v 2)]), (fn w_toSwing 1 [(v 1), (v 2)]), (fn w_toGrads 0 [(v 3), (v 4), (v 5)]), (fn w_toGrads 1 [(v 3), (v 4), (v 5)]), (fn w_toGrads 2 [(v 3), (v 4), (v 5)]), (v 6), (v 7)]), (fn s_SwingStep 1 [(fn w_toModel 0 [(v 0)]), (fn w_toSwing 0 [(v 1), (v 2)]), (fn w_toSwing 1 [(v 1), (v 2)]), (fn w_toGrads 0 [(v 3), (v 4), (v 5)]), (fn w_toGrads 1 [(v 3), (v 4), (v 5)]), (fn w_toGrads 2 [(v 3), (v 4), (v 5)]), (v 6), (v 7)]), (fn s_SwingStep 2 [(fn w_toModel 0 [(v 0)]), (fn w_toSwing 0 [(v 1), (v 2)]), (fn w_toSwing 1 [(v 1), (v 2)]), (fn w_toGrads 0 [(v 3), (v 4), (v 5)]), (fn w_toGrads 1 [(v 3), (v 4), (v 5)]), (fn w_toGrads 2 [(v 3), (v 4), (v 5)]), (v 6), (v 7)])]))) (nt (it (nt (fn w_eqModel 0 [(fn i_SwingStep 0 [(fn w_toModel 0 [(v 0)]), (fn w_toSwing 0 [(v 1), (v 2)]), (fn w_toSwing 1 [(v 1), (v 2)]), (fn w_toGrads 0 [(v 3), (v 4), (v 5)]), (fn w_toGrads 1 [(v 3), (v 4), (v 5)]), (fn w_toGrads 2 [(v 3), (v 4), (v 5)]), (v 6), (v 7)]), (fn s_SwingStep 0 [(fn w_toModel 0 [(v 0)]), (fn w_toSwing 0 [(v 1), (v 2)]), (fn w_toSwing 1 [(v 1), (v 2)]), (fn w_toGrads 0 [(v 3), (v 4), (v 5)]), (fn w_toGrads 1 [(v 3), (v 4), (v 5)]), (fn w_toGrads 2 [(v 3), (v 4), (v 5)]), (v 6), (v 7)])])) tt (nt (fn w_eqSwing 0 [(fn i_SwingStep 1 [(fn w_toModel 0 [(v 0)]), (fn w_toSwing 0 [(v 1), (v 2)]), (fn w_toSwing 1 [(v 1), (v 2)]), (fn w_toGrads 0 [(v 3), (v 4), (v 5)]), (fn w_toGrads 1 [(v 3), (v 4), (v 5)]), (fn w_toGrads 2 [(v 3), (v 4), (v 5)]), (v 6), (v 7)]), (fn i_SwingStep 2 [(fn w_toModel 0 [(v 0)]), (fn w_toSwing 0 [(v 1), (v 2)]), (fn w_toSwing 1 [(v 1), (v 2)]), (fn w_toGrads 0 [(v 3), (v 4), (v 5)]), (fn w_toGrads 1 [(v 3), (v 4), (v 5)]), (fn w_toGrads 2 [(v 3), (v 4), (v 5)]), (v 6), (v 7)]), (fn s_SwingStep 1 [(fn w_toModel 0 [(v 0)]), (fn w_toSwing 0 [(v 1), (v 2)]), (fn w_toSwing 1 [(v 1), (v 2)]), (fn w_toGrads 0 [(v 3), (v 4), (v 5)]), (fn w_toGrads 1 [(v 3), (v 4), (v 5)]), (fn w_toGrads 2 [(v 3), (v 4), (v 5)]), (v 6), (v 7)]), (fn s_SwingStep 2 [(fn w_toModel 0 [(v 0)]), (fn w_toSwing 0 [(v 1), (v 2)]), (fn w_toSwing 1 [(v 1), (v 2)]), (fn w_toGrads 0 [(v 3), (v 4), (v 5)]), (fn w_toGrads 1 [(v 3), (v 4), (v 5)]), (fn w_toGrads 2 [(v 3), (v 4), (v 5)]), (v 6), (v 7)])]))))) <|
             .ite (it (it (nt (fn w_eqModel 0 [(fn i_SwingStep 0 [(fn w_toModel 0 [(v 0)]), (fn w_toSwing 0 [(v 1), (v 2)]), (fn w_toSwing 1 [(v 1), (v 2)]), (fn w_toGrads 0 [(v 3), (v 4), (v 5)]), (fn w_toGrads 1 [(v 3), (v 4), (v 5)]), (fn w_toGrads 2 [(v 3), (v 4), (v 5)]), (v 6), (v 7)]), (fn s_SwingStep 0 [(fn w_toModel 0 [(v 0)]), (fn w_toSwing 0 [(v 1), (v 2)]), (fn w_toSwing 1 [(v 1), (v 2)]), (fn w_toGrads 0 [(v 3), (v 4), (v 5)]), (fn w_toGrads 1 [(v 3), (v 4), (v 5)]), (fn w_toGrads 2 [(v 3), (v 4), (v 5)]), (v 6), (v 7)])])) tt (nt (fn w_eqSwing 0 [(fn i_SwingStep 1 [(fn w_toModel 0 [(v 0)]), (fn w_toSwing 0 [(v 1), (v 2)]), (fn w_toSwing 1 [(v 1), (v 2)]), (fn w_toGrads 0 [(v 3), (v 4), (v 5)]), (fn w_toGrads 1 [(v 3), (v 4), (v 5)]), (fn w_toGrads 2 [(v 3), (v 4), (v 5)]), (v 6), (v 7)]), (fn i_SwingStep 2 [(fn w_toModel 0 [(v 0)]), (fn w_toSwing 0 [(v 1), (v 2)]), (fn w_toSwing 1 [(v 1), (v 2)]), (fn w_toGrads 0 [(v 3), (v 4), (v 5)]), (fn w_toGrads 1 [(v 3), (v 4), (v 5)]), (fn w_toGrads 2 [(v 3), (v 4), (v 5)]), (v 6), (v 7)]), (fn s_SwingStep 1 [(fn w_toModel 0 [(v 0)]), (fn w_toSwing 0 [(v 1), (v 2)]), (fn w_toSwing 1 [(v 1), (v 2)]), (fn w_toGrads 0 [(v 3), (v 4), (v 5)]), (fn w_toGrads 1 [(v 3), (v 4), (v 5)]), (fn w_toGrads 2 [(v 3), (v 4), (v 5)]), (v 6), (v 7)]), (fn s_SwingStep 2 [(fn w_toModel 0 [(v 0)]), (fn w_toSwing 0 [(v 1), (v 2)]), (fn w_toSwing 1 [(v 1), (v 2)]), (fn w_toGrads 0 [(v 3), (v 4), (v 5)]), (fn w_toGrads 1 [(v 3), (v 4), (v 5)]), (fn w_toGrads 2 [(v 3), (v 4), (v 5)]), (v 6), (v 7)])]))) tt (nt (ap (.eqb) [(fn i_SwingStep 3 [(fn w_toModel 0 [(v 0)]), (fn w_toSwing 0 [(v 1), (v 2)]), (fn w_toSwing 1 [(v 1), (v 2)]), (fn w_toGrads 0 [(v 3), (v 4), (v 5)]), (fn w_toGrads 1 [(v 3), (v 4), (v 5)]), (fn w_toGrads 2 [(v 3), (v 4), (v 5)]), (v 6), (v 7)]), (fn s_SwingStep 3 [(fn w_toModel 0 [(v 0)]), (fn w_toSwing 0 [(v 1), (v 2)]), (fn w_toSwing 1 [(v 1), (v 2)]), (fn w_toGrads 0 [(v 3), (v 4), (v 5)]), (fn w_toGrads 1 [(v 3), (v 4), (v 5)]), (fn w_toGrads 2 [(v 3), (v 4), (v 5)]), (v 6), (v 7)])])))
             (.ret [ff])
             (ask w_heldModel [(fn w_markModel 1 [(fn i_SwingStep 0 [(fn w_toModel 0 [(v 0)]), (fn w_toSwing 0 [(v 1), (v 2)]), (fn w_toSwing 1 [(v 1), (v 2)]), (fn w_toGrads 0 [(v 3), (v 4), (v 5)]), (fn w_toGrads 1 [(v 3), (v 4), (v 5)]), (fn w_toGrads 2 [(v 3), (v 4), (v 5)]), (v 6), (v 7)]), (n 1)]), (n 1)] <|
              .ite (lt (fn w_heldModel 0 [(fn w_markModel 1 [(fn i_SwingStep 0 [(fn w_toModel 0 [(v 0)]), (fn w_toSwing 0 [(v 1), (v 2)]), (fn w_toSwing 1 [(v 1), (v 2)]), (fn w_toGrads 0 [(v 3), (v 4), (v 5)]), (fn w_toGrads 1 [(v 3), (v 4), (v 5)]), (fn w_toGrads 2 [(v 3), (v 4), (v 5)]), (v 6), (v 7)]), (n 1)]), (n 1)]) (n 0))
              (.ret [ff])
              (ask w_heldSwing [(fn w_markSwing 1 [(fn i_SwingStep 1 [(fn w_toModel 0 [(v 0)]), (fn w_toSwing 0 [(v 1), (v 2)]), (fn w_toSwing 1 [(v 1), (v 2)]), (fn w_toGrads 0 [(v 3), (v 4), (v 5)]), (fn w_toGrads 1 [(v 3), (v 4), (v 5)]), (fn w_toGrads 2 [(v 3), (v 4), (v 5)]), (v 6), (v 7)]), (fn i_SwingStep 2 [(fn w_toModel 0 [(v 0)]), (fn w_toSwing 0 [(v 1), (v 2)]), (fn w_toSwing 1 [(v 1), (v 2)]), (fn w_toGrads 0 [(v 3), (v 4), (v 5)]), (fn w_toGrads 1 [(v 3), (v 4), (v 5)]), (fn w_toGrads 2 [(v 3), (v 4), (v 5)]), (v 6), (v 7)]), (fn w_markModel 0 [(fn i_SwingStep 0 [(fn w_toModel 0 [(v 0)]), (fn w_toSwing 0 [(v 1), (v 2)]), (fn w_toSwing 1 [(v 1), (v 2)]), (fn w_toGrads 0 [(v 3), (v 4), (v 5)]), (fn w_toGrads 1 [(v 3), (v 4), (v 5)]), (fn w_toGrads 2 [(v 3), (v 4), (v 5)]), (v 6), (v 7)]), (n 1)])]), (fn i_SwingStep 2 [(fn w_toModel 0 [(v 0)]), (fn w_toSwing 0 [(v 1), (v 2)]), (fn w_toSwing 1 [(v 1), (v 2)]), (fn w_toGrads 0 [(v 3), (v 4), (v 5)]), (fn w_toGrads 1 [(v 3), (v 4), (v 5)]), (fn w_toGrads 2 [(v 3), (v 4), (v 5)]), (v 6), (v 7)]), (fn w_heldModel 0 [(fn w_markModel 1 [(fn i_SwingStep 0 [(fn w_toModel 0 [(v 0)]), (fn w_toSwing 0 [(v 1), (v 2)]), (fn w_toSwing 1 [(v 1), (v 2)]), (fn w_toGrads 0 [(v 3), (v 4), (v 5)]), (fn w_toGrads 1 [(v 3), (v 4), (v 5)]), (fn w_toGrads 2 [(v 3), (v 4), (v 5)]), (v 6), (v 7)]), (n 1)]), (n 1)])] <|
               .ite (lt (fn w_heldSwing 0 [(fn w_markSwing 1 [(fn i_SwingStep 1 [(fn w_toModel 0 [(v 0)]), (fn w_toSwing 0 [(v 1), (v 2)]), (fn w_toSwing 1 [(v 1), (v 2)]), (fn w_toGrads 0 [(v 3), (v 4), (v 5)]), (fn w_toGrads 1 [(v 3), (v 4), (v 5)]), (fn w_toGrads 2 [(v 3), (v 4), (v 5)]), (v 6), (v 7)]), (fn i_SwingStep 2 [(fn w_toModel 0 [(v 0)]), (fn w_toSwing 0 [(v 1), (v 2)]), (fn w_toSwing 1 [(v 1), (v 2)]), (fn w_toGrads 0 [(v 3), (v 4), (v 5)]), (fn w_toGrads 1 [(v 3), (v 4), (v 5)]), (fn w_toGrads 2 [(v 3), (v 4), (v 5)]), (v 6), (v 7)]), (fn w_markModel 0 [(fn i_SwingStep 0 [(fn w_toModel 0 [(v 0)]), (fn w_toSwing 0 [(v 1), (v 2)]), (fn w_toSwing 1 [(v 1), (v 2)]), (fn w_toGrads 0 [(v 3), (v 4), (v 5)]), (fn w_toGrads 1 [(v 3), (v 4), (v 5)]), (fn w_toGrads 2 [(v 3), (v 4), (v 5)]), (v 6), (v 7)]), (n 1)])]), (fn i_SwingStep 2 [(fn w_toModel 0 [(v 0)]), (fn w_toSwing 0 [(v 1), (v 2)]), (fn w_toSwing 1 [(v 1), (v 2)]), (fn w_toGrads 0 [(v 3), (v 4), (v 5)]), (fn w_toGrads 1 [(v 3), (v 4), (v 5)]), (fn w_toGrads 2 [(v 3), (v 4), (v 5)]), (v 6), (v 7)]), (fn w_heldModel 0 [(fn w_markModel 1 [(fn i_SwingStep 0 [(fn w_toModel 0 [(v 0)]), (fn w_toSwing 0 [(v 1), (v 2)]), (fn w_toSwing 1 [(v 1), (v 2)]), (fn w_toGrads 0 [(v 3), (v 4), (v 5)]), (fn w_toGrads 1 [(v 3), (v 4), (v 5)]), (fn w_toGrads 2 [(v 3), (v 4), (v 5)]), (v 6), (v 7)]), (n 1)]), (n 1)])]) (n 0))
               (.ret [ff])
               (.ite (nt (eq (fn w_heldSwing 0 [(fn w_markSwing 1 [(fn i_SwingStep 1 [(fn w_toModel 0 [(v 0)]), (fn w_toSwing 0 [(v 1), (v 2)]), (fn w_toSwing 1 [(v 1), (v 2)]), (fn w_toGrads 0 [(v 3), (v 4), (v 5)]), (fn w_toGrads 1 [(v 3), (v 4), (v 5)]), (fn w_toGrads 2 [(v 3), (v 4), (v 5)]), (v 6), (v 7)]), (fn i_SwingStep 2 [(fn w_toModel 0 [(v 0)]), (fn w_toSwing 0 [(v 1), (v 2)]), (fn w_toSwing 1 [(v 1), (v 2)]), (fn w_toGrads 0 [(v 3), (v 4), (v 5)]), (fn w_toGrads 1 [(v 3), (v 4), (v 5)]), (fn w_toGrads 2 [(v 3), (v 4), (v 5)]), (v 6), (v 7)]), (fn w_markModel 0 [(fn i_SwingStep 0 [(fn w_toModel 0 [(v 0)]), (fn w_toSwing 0 [(v 1), (v 2)]), (fn w_toSwing 1 [(v 1), (v 2)]), (fn w_toGrads 0 [(v 3), (v 4), (v 5)]), (fn w_toGrads 1 [(v 3), (v 4), (v 5)]), (fn w_toGrads 2 [(v 3), (v 4), (v 5)]), (v 6), (v 7)]), (n 1)])]), (fn i_SwingStep 2 [(fn w_toModel 0 [(v 0)]), (fn w_toSwing 0 [(v 1), (v 2)]), (fn w_toSwing 1 [(v 1), (v 2)]), (fn w_toGrads 0 [(v 3), (v 4), (v 5)]), (fn w_toGrads 1 [(v 3), (v 4), (v 5)]), (fn w_toGrads 2 [(v 3), (v 4), (v 5)]), (v 6), (v 7)]), (fn w_heldModel 0 [(fn w_markModel 1 [(fn i_SwingStep 0 [(fn w_toModel 0 [(v 0)]), (fn w_toSwing 0 [(v 1), (v 2)]), (fn w_toSwing 1 [(v 1), (v 2)]), (fn w_toGrads 0 [(v 3), (v 4), (v 5)]), (fn w_toGrads 1 [(v 3), (v 4), (v 5)]), (fn w_toGrads 2 [(v 3), (v 4), (v 5)]), (v 6), (v 7)]), (n 1)]), (n 1)])]) (fn w_markSwing 0 [(fn i_SwingStep 1 [(fn w_toModel 0 [(v 0)]), (fn w_toSwing 0 [(v 1), (v 2)]), (fn w_toSwing 1 [(v 1), (v 2)]), (fn w_toGrads 0 [(v 3), (v 4), (v 5)]), (fn w_toGrads 1 [(v 3), (v 4), (v 5)]), (fn w_toGrads 2 [(v 3), (v 4), (v 5)]), (v 6), (v 7)]), (fn i_SwingStep 2 [(fn w_toModel 0 [(v 0)]), (fn w_toSwing 0 [(v 1), (v 2)]), (fn w_toSwing 1 [(v 1), (v 2)]), (fn w_toGrads 0 [(v 3), (v 4), (v 5)]), (fn w_toGrads 1 [(v 3), (v 4), (v 5)]), (fn w_toGrads 2 [(v 3), (v 4), (v 5)]), (v 6), (v 7)]), (fn w_markModel 0 [(fn i_SwingStep 0 [(fn w_toModel 0 [(v 0)]), (fn w_toSwing 0 [(v 1), (v 2)]), (fn w_toSwing 1 [(v 1), (v 2)]), (fn w_toGrads 0 [(v 3), (v 4), (v 5)]), (fn w_toGrads 1 [(v 3), (v 4), (v 5)]), (fn w_toGrads 2 [(v 3), (v 4), (v 5)]), (v 6), (v 7)]), (n 1)])])))
                (.ret [ff])
                (.ret [tt])))))))))))))))

end Go.Sx
