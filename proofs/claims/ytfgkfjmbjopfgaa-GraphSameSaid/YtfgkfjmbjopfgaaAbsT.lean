/-
  The texts of Ytfgkfjmbjopfgaa's functions for the abstract machine, printed by program, each checked against the program.
-/
import Derived.Test.YtfgkfjmbjopfgaaAbsDraw
import Derived.Test.YtfgkfjmbjopfgaaProg
import Derived.KernelRfl
set_option linter.unusedVariables false
set_option linter.unusedSimpArgs false
set_option maxRecDepth 100000
namespace Go.Abs
open Go
namespace TryT

/-- ladderback/ladderbacklaw40.GraphSame -/
def a3 : AFn := { ntmps := 48, results := [.tmp 4], body :=
  (.seq (.region false [.val none (some 4) (.mv (.c (.bool false)))])
  (.seq (.seq (.region false [.val none (some 6) (.mv (.t 0)),
      .call none (some 7) 4 [.t 6, .c (.int .i64 24)],
      .val none (some 8) (.un .not (.t 7)),
      .val none (some 9) (.mv (.t 8)),
      .val (some (9, false)) (some 10) (.mv (.t 1)),
      .call (some (9, false)) (some 11) 4 [.t 10, .c (.int .i64 24)],
      .val (some (9, false)) (some 12) (.un .not (.t 11)),
      .val none (some 13) (.pick (.t 9) (.c (.bool true)) (.t 12))])
   (.cond (.t 13)
    (.seq (.region false [.call none (some 14) 5 [],
       .val none (some 4) (.mv (.t 14))])
    .ret)
    .skip))
  (.seq (.region false [.val none (some 15) (.mv (.t 0)),
     .val none (some 16) (.mv (.t 1)),
     .call none (some 17) 6 [.t 15, .t 16],
     .val none (some 5) (.mv (.t 17))])
  (.seq (.region false [.val none (some 18) (.mv (.t 0)),
     .call none (some 19) 7 [.t 18],
     .val none (some 20) (.mv (.t 0)),
     .call none (some 21) 8 [.t 20],
     .val none (some 22) (.beq false (.t 19) (.t 21)),
     .val none (some 23) (.mv (.t 22)),
     .val (some (23, true)) (some 24) (.mv (.t 5)),
     .val (some (23, true)) (some 25) (.mv (.t 0)),
     .val (some (23, true)) (some 26) (.mv (.t 1)),
     .call (some (23, true)) (some 27) 9 [.t 25, .t 26],
     .val (some (23, true)) (some 28) (.beq false (.t 24) (.t 27)),
     .val none (some 29) (.pick (.t 23) (.t 28) (.c (.bool false))),
     .val none (some 30) (.mv (.t 29)),
     .val (some (30, true)) (some 31) (.mv (.t 5)),
     .val (some (30, true)) (some 32) (.mv (.t 1)),
     .val (some (30, true)) (some 33) (.mv (.t 0)),
     .call (some (30, true)) (some 34) 6 [.t 32, .t 33],
     .val (some (30, true)) (some 35) (.beq false (.t 31) (.t 34)),
     .val none (some 36) (.pick (.t 30) (.t 35) (.c (.bool false))),
     .val none (some 37) (.mv (.t 36)),
     .val (some (37, true)) (some 38) (.mv (.t 0)),
     .val (some (37, true)) (some 39) (.mv (.t 0)),
     .call (some (37, true)) (some 40) 6 [.t 38, .t 39],
     .val (some (37, true)) (some 41) (.mv (.t 0)),
     .call (some (37, true)) (some 42) 8 [.t 41],
     .val (some (37, true)) (some 43) (.beq false (.t 40) (.t 42)),
     .val none (some 44) (.pick (.t 37) (.t 43) (.c (.bool false))),
     .val none (some 45) (.mv (.t 44)),
     .call (some (45, true)) (some 46) 5 [],
     .val none (some 47) (.pick (.t 45) (.t 46) (.c (.bool false))),
     .val none (some 4) (.mv (.t 47))])
  .ret)))) }

/-- ladderback/ladderbackref40.Few -/
def a4 : AFn := { ntmps := 51, results := [.tmp 4], body :=
  (.seq (.region false [.val none (some 4) (.mv (.c (.bool false)))])
  (.seq (.seq (.region false [.val none (some 6) (.mv (.t 0)),
      .val none (some 7) (.len (.t 6)),
      .val none (some 8) (.mv (.t 1)),
      .val none (some 9) (.bin .gtr (.t 7) (.t 8))])
   (.cond (.t 9)
    (.seq (.region false [.val none (some 4) (.mv (.c (.bool false)))])
    .ret)
    .skip))
  (.seq (.seq (.region false [.val none (some 5) (.mv (.c (.int .i64 0)))])
   (.block 0 (.loop [0, 5] []
     (.seq (.seq (.region false [.val none (some 10) (.mv (.t 5)),
         .val none (some 11) (.mv (.t 0)),
         .val none (some 12) (.len (.t 11)),
         .val none (some 13) (.bin .lss (.t 10) (.t 12))])
      (.cond (.t 13)
       .skip
       (.exit 0)))
     (.seq (.block 1 (.seq (.region false [.val none (some 16) (.mv (.t 0)),
          .val none (some 17) (.mv (.t 5)),
          .val none (some 18) (.ia (.t 16) (.t 17) 20),
          .val none (some 19) (.fa (.t 18) 19),
          .val none (some 20) (.ld (.t 19) 1 false),
          .val none (some 21) (.len (.t 20)),
          .val none (some 22) (.bin .gtr (.t 21) (.c (.int .i64 40))),
          .val none (some 23) (.mv (.t 22)),
          .val (some (23, false)) (some 24) (.mv (.t 0)),
          .val (some (23, false)) (some 25) (.mv (.t 5)),
          .val (some (23, false)) (some 26) (.ia (.t 24) (.t 25) 20),
          .val (some (23, false)) (some 27) (.fa (.t 26) 0),
          .val (some (23, false)) (some 28) (.fa (.t 27) 1),
          .val (some (23, false)) (some 29) (.ld (.t 28) 1 false),
          .val (some (23, false)) (some 30) (.bin .lss (.t 29) (.c (.int .i64 0))),
          .val none (some 31) (.pick (.t 23) (.c (.bool true)) (.t 30)),
          .val none (some 32) (.mv (.t 31)),
          .val (some (32, false)) (some 33) (.mv (.t 0)),
          .val (some (32, false)) (some 34) (.mv (.t 5)),
          .val (some (32, false)) (some 35) (.ia (.t 33) (.t 34) 20),
          .val (some (32, false)) (some 36) (.fa (.t 35) 0),
          .val (some (32, false)) (some 37) (.fa (.t 36) 1),
          .val (some (32, false)) (some 38) (.ld (.t 37) 1 false),
          .val (some (32, false)) (some 39) (.bin .gtr (.t 38) (.c (.int .i64 1048576))),
          .val none (some 40) (.pick (.t 32) (.c (.bool true)) (.t 39)),
          .val none (some 41) (.mv (.t 40)),
          .val (some (41, false)) (some 42) (.mv (.t 0)),
          .val (some (41, false)) (some 43) (.mv (.t 5)),
          .val (some (41, false)) (some 44) (.ia (.t 42) (.t 43) 20),
          .val (some (41, false)) (some 45) (.fa (.t 44) 0),
          .val (some (41, false)) (some 46) (.ld (.t 45) 19 true),
          .bsl (some (41, false)) 47 19 1 [.int .i64 0, .int .i64 0, .int .i64 0, .int .i64 0, .int .i64 0, .int .i64 0, .int .i64 0, .int .i64 0, .nsl, .int .i64 0, .int .i64 0, .int .i64 0, .int .i64 0, .nsl, .nsl, .nsl, .nsl, .nsl, .nsl] [(0, 19, .t 46)],
          .call (some (41, false)) (some 48) 10 [.t 47, .c (.int .i64 4)],
          .val (some (41, false)) (some 49) (.un .not (.t 48)),
          .val none (some 50) (.pick (.t 41) (.c (.bool true)) (.t 49))])
       (.cond (.t 50)
        (.seq (.region false [.val none (some 4) (.mv (.c (.bool false)))])
        .ret)
        .skip)))
     (.region false [.val none (some 14) (.mv (.t 5)),
       .val none (some 15) (.bin .add (.t 14) (.c (.int .i64 1))),
       .val none (some 5) (.mv (.t 15))]))))))
  (.seq (.region false [.val none (some 4) (.mv (.c (.bool true)))])
  .ret)))) }

/-- ladderback/ladderbacklaw40.awake -/
def a5 : AFn := { ntmps := 25, results := [.tmp 0], body :=
  (.seq (.region false [.val none (some 0) (.mv (.c (.bool false)))])
  (.seq (.region false [.val none (some 3) (.build [.int .i64 0, .int .i64 0, .int .i64 0, .int .i64 0, .nsl] [(0, 1, .c (.int .i64 1)), (1, 1, .c (.int .i64 2)), (2, 1, .c (.int .i64 1))]),
     .val none (some 4) (.build [.int .i64 0, .int .i64 0, .int .i64 0, .int .i64 0, .int .i64 0, .int .i64 0, .int .i64 0, .int .i64 0, .nsl, .int .i64 0, .int .i64 0, .int .i64 0, .int .i64 0, .nsl, .nsl, .nsl, .nsl, .nsl, .nsl] [(0, 1, .c (.int .i64 1)), (1, 1, .c (.int .i64 2)), (4, 5, .t 3)]),
     .box none 1 (.c (.agg [.int .i64 0, .int .i64 0, .int .i64 0, .int .i64 0, .int .i64 0, .int .i64 0, .int .i64 0, .int .i64 0, .nsl, .int .i64 0, .int .i64 0, .int .i64 0, .int .i64 0, .nsl, .nsl, .nsl, .nsl, .nsl, .nsl])) 19,
     .st none (.t 1) (.t 4) 19])
  (.seq (.region false [.val none (some 5) (.ld (.t 1) 19 true),
     .box none 2 (.c (.agg [.int .i64 0, .int .i64 0, .int .i64 0, .int .i64 0, .int .i64 0, .int .i64 0, .int .i64 0, .int .i64 0, .nsl, .int .i64 0, .int .i64 0, .int .i64 0, .int .i64 0, .nsl, .nsl, .nsl, .nsl, .nsl, .nsl])) 19,
     .st none (.t 2) (.t 5) 19])
  (.seq (.region false [.val none (some 6) (.fa (.t 2) 1),
     .st none (.t 6) (.c (.int .i64 3)) 1])
  (.seq (.region true [.val none (some 7) (.build [.int .i64 0, .int .i64 0, .int .i64 0, .int .i64 0, .int .i64 0, .int .i64 0, .int .i64 0, .int .i64 0, .nsl, .int .i64 0, .int .i64 0, .int .i64 0, .int .i64 0, .nsl, .nsl, .nsl, .nsl, .nsl, .nsl] [(1, 1, .c (.int .i64 1))]),
     .val none (some 8) (.ld (.t 1) 19 true),
     .bsl none 9 19 2 [.int .i64 0, .int .i64 0, .int .i64 0, .int .i64 0, .int .i64 0, .int .i64 0, .int .i64 0, .int .i64 0, .nsl, .int .i64 0, .int .i64 0, .int .i64 0, .int .i64 0, .nsl, .nsl, .nsl, .nsl, .nsl, .nsl] [(0, 19, .t 7), (19, 19, .t 8)],
     .call none (some 10) 11 [.t 9],
     .val none (some 11) (.ldl (.t 2) 19 true),
     .bsl none 12 19 1 [.int .i64 0, .int .i64 0, .int .i64 0, .int .i64 0, .int .i64 0, .int .i64 0, .int .i64 0, .int .i64 0, .nsl, .int .i64 0, .int .i64 0, .int .i64 0, .int .i64 0, .nsl, .nsl, .nsl, .nsl, .nsl, .nsl] [(0, 19, .t 11)],
     .call none (some 13) 11 [.t 12],
     .call none (some 14) 6 [.t 10, .t 13],
     .val none (some 15) (.mv (.t 14)),
     .val (some (15, true)) (some 16) (.ld (.t 1) 19 true),
     .bsl (some (15, true)) 17 19 1 [.int .i64 0, .int .i64 0, .int .i64 0, .int .i64 0, .int .i64 0, .int .i64 0, .int .i64 0, .int .i64 0, .nsl, .int .i64 0, .int .i64 0, .int .i64 0, .int .i64 0, .nsl, .nsl, .nsl, .nsl, .nsl, .nsl] [(0, 19, .t 16)],
     .call (some (15, true)) (some 18) 11 [.t 17],
     .val (some (15, true)) (some 19) (.ldl (.t 2) 19 true),
     .bsl (some (15, true)) 20 19 1 [.int .i64 0, .int .i64 0, .int .i64 0, .int .i64 0, .int .i64 0, .int .i64 0, .int .i64 0, .int .i64 0, .nsl, .int .i64 0, .int .i64 0, .int .i64 0, .int .i64 0, .nsl, .nsl, .nsl, .nsl, .nsl, .nsl] [(0, 19, .t 19)],
     .call (some (15, true)) (some 21) 11 [.t 20],
     .call (some (15, true)) (some 22) 6 [.t 18, .t 21],
     .val (some (15, true)) (some 23) (.un .not (.t 22)),
     .val none (some 24) (.pick (.t 15) (.t 23) (.c (.bool false))),
     .val none (some 0) (.mv (.t 24))])
  .ret))))) }

/-- ladderback/graph.Same -/
def a6 : AFn := { ntmps := 136, results := [.tmp 4], body :=
  (.seq (.region false [.val none (some 4) (.mv (.c (.bool false)))])
  (.seq (.seq (.region false [.val none (some 15) (.mv (.t 0)),
      .call none (some 16) 7 [.t 15],
      .val none (some 17) (.un .not (.t 16)),
      .val none (some 18) (.mv (.t 17)),
      .val (some (18, false)) (some 19) (.mv (.t 1)),
      .call (some (18, false)) (some 20) 7 [.t 19],
      .val (some (18, false)) (some 21) (.un .not (.t 20)),
      .val none (some 22) (.pick (.t 18) (.c (.bool true)) (.t 21))])
   (.cond (.t 22)
    (.seq (.region false [.val none (some 4) (.mv (.c (.bool false)))])
    .ret)
    .skip))
  (.seq (.region false [.mkm none 23,
     .val none (some 5) (.mv (.t 23))])
  (.seq (.region false [.val none (some 24) (.build [.int .i64 0, .int .i64 0] [(0, 1, .c (.int .i64 0)), (1, 1, .c (.int .i64 0))]),
     .bsl none 25 2 1 [.int .i64 0, .int .i64 0] [(0, 2, .t 24)],
     .val none (some 6) (.mv (.t 25))])
  (.seq (.block 0 (.loop [0, 1, 5, 6] []
     (.seq (.seq (.region false [.val none (some 26) (.mv (.t 6)),
         .val none (some 27) (.len (.t 26)),
         .val none (some 28) (.bin .gtr (.t 27) (.c (.int .i64 0)))])
      (.cond (.t 28)
       .skip
       (.exit 0)))
     (.block 1 (.seq (.region false [.val none (some 29) (.mv (.t 6)),
         .val none (some 30) (.mv (.t 6)),
         .val none (some 31) (.len (.t 30)),
         .val none (some 32) (.bin .sub (.t 31) (.c (.int .i64 1))),
         .val none (some 33) (.ia (.t 29) (.t 32) 2),
         .val none (some 34) (.ld (.t 33) 2 true),
         .box none 7 (.c (.agg [.int .i64 0, .int .i64 0])) 2,
         .st none (.t 7) (.t 34) 2])
      (.seq (.region false [.val none (some 35) (.mv (.t 6)),
         .val none (some 36) (.mv (.t 6)),
         .val none (some 37) (.len (.t 36)),
         .val none (some 38) (.bin .sub (.t 37) (.c (.int .i64 1))),
         .val none (some 39) (.slc (.t 35) none (some (.t 38)) 2),
         .val none (some 6) (.mv (.t 39))])
      (.seq (.region false [.val none (some 41) (.mv (.t 0)),
         .val none (some 42) (.iaa (.t 7) (.c (.int .i64 0)) 2 1),
         .val none (some 43) (.ld (.t 42) 1 false),
         .call none (some 44) 12 [.t 41, .t 43],
         .val none (some 40) (.mv (.t 44)),
         .val none (some 45) (.ext (.t 40) 0),
         .val none (some 46) (.ext (.t 40) 1),
         .val none (some 8) (.mv (.t 45)),
         .val none (some 9) (.mv (.t 46))])
      (.seq (.region false [.val none (some 48) (.mv (.t 1)),
         .val none (some 49) (.iaa (.t 7) (.c (.int .i64 1)) 2 1),
         .val none (some 50) (.ld (.t 49) 1 false),
         .call none (some 51) 12 [.t 48, .t 50],
         .val none (some 47) (.mv (.t 51)),
         .val none (some 52) (.ext (.t 47) 0),
         .val none (some 53) (.ext (.t 47) 1),
         .val none (some 10) (.mv (.t 52)),
         .val none (some 11) (.mv (.t 53))])
      (.seq (.seq (.region false [.val none (some 54) (.mv (.t 8)),
          .val none (some 55) (.bin .lss (.t 54) (.c (.int .i64 0))),
          .val none (some 56) (.mv (.t 55)),
          .val (some (56, false)) (some 57) (.mv (.t 10)),
          .val (some (56, false)) (some 58) (.bin .lss (.t 57) (.c (.int .i64 0))),
          .val none (some 59) (.pick (.t 56) (.c (.bool true)) (.t 58))])
       (.cond (.t 59)
        (.seq (.seq (.region false [.val none (some 60) (.mv (.t 8)),
            .val none (some 61) (.mv (.t 10)),
            .val none (some 62) (.bin .neq (.t 60) (.t 61))])
         (.cond (.t 62)
          (.seq (.region false [.val none (some 4) (.mv (.c (.bool false)))])
          .ret)
          .skip))
        (.exit 1))
        .skip))
      (.seq (.seq (.region false [.val none (some 63) (.mv (.t 5)),
          .val none (some 64) (.mv (.t 8)),
          .val none (some 65) (.mv (.t 10)),
          .val none (some 66) (.build [.int .i64 0, .int .i64 0] [(0, 1, .t 64), (1, 1, .t 65)]),
          .val none (some 67) (.lookup 2 (.t 63) (.t 66) (.int .i64 0)),
          .val none (some 68) (.bin .gtr (.t 67) (.c (.int .i64 0)))])
       (.cond (.t 68)
        (.seq (.seq (.region false [.val none (some 69) (.mv (.t 9)),
            .val none (some 70) (.mv (.t 11)),
            .val none (some 71) (.bin .neq (.t 69) (.t 70))])
         (.cond (.t 71)
          (.seq (.region false [.val none (some 4) (.mv (.c (.bool false)))])
          .ret)
          .skip))
        (.exit 1))
        .skip))
      (.seq (.region true [.val none (some 72) (.mv (.t 0)),
         .val none (some 73) (.mv (.t 8)),
         .val none (some 74) (.ia (.t 72) (.t 73) 20),
         .val none (some 75) (.fa (.t 74) 0),
         .val none (some 76) (.ld (.t 75) 19 true),
         .val none (some 77) (.mv (.t 1)),
         .val none (some 78) (.mv (.t 10)),
         .val none (some 79) (.iaf (.t 77) (.t 78) 20),
         .val none (some 80) (.fa (.t 79) 0),
         .val none (some 81) (.ldf (.t 80) 19 true),
         .box none 12 (.c (.agg [.int .i64 0, .int .i64 0, .int .i64 0, .int .i64 0, .int .i64 0, .int .i64 0, .int .i64 0, .int .i64 0, .nsl, .int .i64 0, .int .i64 0, .int .i64 0, .int .i64 0, .nsl, .nsl, .nsl, .nsl, .nsl, .nsl])) 19,
         .box none 13 (.c (.agg [.int .i64 0, .int .i64 0, .int .i64 0, .int .i64 0, .int .i64 0, .int .i64 0, .int .i64 0, .int .i64 0, .nsl, .int .i64 0, .int .i64 0, .int .i64 0, .int .i64 0, .nsl, .nsl, .nsl, .nsl, .nsl, .nsl])) 19,
         .st none (.t 12) (.t 76) 19,
         .st none (.t 13) (.t 81) 19])
      (.seq (.region false [.val none (some 82) (.fa (.t 12) 1),
         .st none (.t 82) (.c (.int .i64 0)) 1,
         .val none (some 83) (.fa (.t 13) 1),
         .st none (.t 83) (.c (.int .i64 0)) 1])
      (.seq (.seq (.region false [.val none (some 84) (.mv (.t 9)),
          .val none (some 85) (.mv (.t 11)),
          .val none (some 86) (.bin .neq (.t 84) (.t 85)),
          .val none (some 87) (.mv (.t 86)),
          .val (some (87, false)) (some 88) (.ld (.t 12) 19 true),
          .bsl (some (87, false)) 89 19 1 [.int .i64 0, .int .i64 0, .int .i64 0, .int .i64 0, .int .i64 0, .int .i64 0, .int .i64 0, .int .i64 0, .nsl, .int .i64 0, .int .i64 0, .int .i64 0, .int .i64 0, .nsl, .nsl, .nsl, .nsl, .nsl, .nsl] [(0, 19, .t 88)],
          .val (some (87, false)) (some 90) (.ld (.t 13) 19 true),
          .bsl (some (87, false)) 91 19 1 [.int .i64 0, .int .i64 0, .int .i64 0, .int .i64 0, .int .i64 0, .int .i64 0, .int .i64 0, .int .i64 0, .nsl, .int .i64 0, .int .i64 0, .int .i64 0, .int .i64 0, .nsl, .nsl, .nsl, .nsl, .nsl, .nsl] [(0, 19, .t 90)],
          .call (some (87, false)) (some 92) 13 [.t 89, .t 91],
          .val (some (87, false)) (some 93) (.un .not (.t 92)),
          .val none (some 94) (.pick (.t 87) (.c (.bool true)) (.t 93))])
       (.cond (.t 94)
        (.seq (.region false [.val none (some 4) (.mv (.c (.bool false)))])
        .ret)
        .skip))
      (.seq (.region true [.val none (some 95) (.mv (.t 5)),
         .val none (some 96) (.mv (.t 8)),
         .val none (some 97) (.mv (.t 10)),
         .val none (some 98) (.build [.int .i64 0, .int .i64 0] [(0, 1, .t 96), (1, 1, .t 97)]),
         .val none (some 99) (.lookup 2 (.t 95) (.t 98) (.int .i64 0)),
         .val none (some 100) (.bin .add (.t 99) (.c (.int .i64 1))),
         .men none 101 2 (.t 95) (.t 98) (.int .i64 0),
         .val none (some 102) (.ext (.t 101) 1),
         .mst none (.t 95) (.t 102) (.t 100)])
      (.seq (.region true [.val none (some 103) (.mv (.t 0)),
         .val none (some 104) (.mv (.t 8)),
         .val none (some 105) (.ia (.t 103) (.t 104) 20),
         .val none (some 106) (.fa (.t 105) 19),
         .val none (some 107) (.ld (.t 106) 1 false),
         .val none (some 108) (.len (.t 107)),
         .val none (some 109) (.mv (.t 1)),
         .val none (some 110) (.mv (.t 10)),
         .val none (some 111) (.ia (.t 109) (.t 110) 20),
         .val none (some 112) (.fa (.t 111) 19),
         .val none (some 113) (.ld (.t 112) 1 false),
         .val none (some 114) (.len (.t 113)),
         .val none (some 115) (.mx (.t 108) (.t 114)),
         .val none (some 116) (.mv (.c (.int .i64 0)))])
      (.block 2 (.loop [0, 1, 5, 6, 8, 10, 115, 116] []
        (.seq (.region false [.val none (some 117) (.bin .lss (.t 116) (.t 115))])
        (.seq (.cond (.t 117)
          .skip
          (.exit 2))
        (.seq (.block 3 (.seq (.region false [.val none (some 118) (.mv (.t 116)),
             .val none (some 14) (.mv (.t 118))])
          (.region true [.val none (some 119) (.mv (.t 6)),
            .val none (some 120) (.mv (.t 0)),
            .val none (some 121) (.mv (.t 8)),
            .val none (some 122) (.ia (.t 120) (.t 121) 20),
            .val none (some 123) (.ld (.t 122) 20 true),
            .val none (some 124) (.mv (.t 14)),
            .call none (some 125) 14 [.t 123, .t 124],
            .val none (some 126) (.mv (.t 1)),
            .val none (some 127) (.mv (.t 10)),
            .val none (some 128) (.iaf (.t 126) (.t 127) 20),
            .val none (some 129) (.ldf (.t 128) 20 true),
            .val none (some 130) (.mv (.t 14)),
            .call none (some 131) 14 [.t 129, .t 130],
            .val none (some 132) (.build [.int .i64 0, .int .i64 0] [(0, 1, .t 125), (1, 1, .t 131)]),
            .bsl none 133 2 1 [.int .i64 0, .int .i64 0] [(0, 2, .t 132)],
            .app none 134 (.t 119) (.t 133) 2 16,
            .val none (some 6) (.mv (.t 134))])))
        (.region false [.val none (some 135) (.bin .add (.t 116) (.c (.int .i64 1))),
          .val none (some 116) (.mv (.t 135))])))))))))))))))))))))
  (.seq (.region false [.val none (some 4) (.mv (.c (.bool true)))])
  .ret)))))) }

def a7_b2 : ACode :=
  (.block 2 (.seq (.seq (.region false [.val none (some 37) (.bin .eql (.t 35) (.c (.int .i64 1))),
      .val none (some 36) (.mv (.t 37))])
   (.cond (.t 36)
    .skip
    (.seq (.region false [.val none (some 38) (.bin .eql (.t 35) (.c (.int .i64 2))),
       .val none (some 36) (.mv (.t 38))])
    (.cond (.t 36)
     .skip
     (.seq (.region false [.val none (some 39) (.bin .eql (.t 35) (.c (.int .i64 3))),
        .val none (some 36) (.mv (.t 39))])
     (.cond (.t 36)
      .skip
      (.seq (.region false [.val none (some 40) (.bin .eql (.t 35) (.c (.int .i64 4))),
         .val none (some 36) (.mv (.t 40))])
      (.cond (.t 36)
       .skip
       (.seq (.region false [.val none (some 41) (.bin .eql (.t 35) (.c (.int .i64 5))),
          .val none (some 36) (.mv (.t 41))])
       (.cond (.t 36)
        .skip
        (.seq (.region false [.val none (some 42) (.bin .eql (.t 35) (.c (.int .i64 6))),
           .val none (some 36) (.mv (.t 42))])
        (.cond (.t 36)
         .skip
         (.region false [.val none (some 43) (.bin .eql (.t 35) (.c (.int .i64 0))),
           .val none (some 36) (.mv (.t 43))])))))))))))))
  (.cond (.t 36)
   (.region false [.val none (some 44) (.fa (.t 4) 19),
     .val none (some 45) (.ld (.t 44) 1 false),
     .val none (some 46) (.len (.t 45)),
     .val none (some 47) (.bin .eql (.t 46) (.c (.int .i64 1))),
     .val none (some 5) (.mv (.t 47))])
   (.seq (.region false [.val none (some 49) (.bin .eql (.t 35) (.c (.int .i64 7))),
      .val none (some 48) (.mv (.t 49))])
   (.cond (.t 48)
    (.region false [.val none (some 50) (.fa (.t 4) 19),
      .val none (some 51) (.ld (.t 50) 1 false),
      .val none (some 52) (.len (.t 51)),
      .val none (some 53) (.bin .eql (.t 52) (.c (.int .i64 2))),
      .val none (some 5) (.mv (.t 53))])
    (.seq (.region false [.val none (some 55) (.bin .eql (.t 35) (.c (.int .i64 11))),
       .val none (some 54) (.mv (.t 55))])
    (.cond (.t 54)
     (.region false [.val none (some 56) (.fa (.t 4) 19),
       .val none (some 57) (.ld (.t 56) 1 false),
       .val none (some 58) (.len (.t 57)),
       .val none (some 59) (.bin .gtr (.t 58) (.c (.int .i64 0))),
       .val none (some 5) (.mv (.t 59))])
     (.seq (.region false [.val none (some 61) (.bin .eql (.t 35) (.c (.int .i64 14))),
        .val none (some 60) (.mv (.t 61))])
     (.cond (.t 60)
      (.region false [.val none (some 62) (.fa (.t 4) 19),
        .val none (some 63) (.ld (.t 62) 1 false),
        .val none (some 64) (.len (.t 63)),
        .val none (some 65) (.bin .eql (.t 64) (.c (.int .i64 0))),
        .val none (some 5) (.mv (.t 65))])
      .skip)))))))))

/-- ladderback/graph.Right -/
def a7 : AFn := { ntmps := 91, results := [.tmp 2], body :=
  (.seq (.region false [.val none (some 2) (.mv (.c (.bool false)))])
  (.seq (.seq (.region false [.val none (some 8) (.mv (.t 0)),
      .val none (some 9) (.len (.t 8)),
      .val none (some 10) (.mv (.c (.int .i64 0)))])
   (.block 0 (.loop [0, 8, 9, 10] []
     (.seq (.region false [.val none (some 11) (.bin .lss (.t 10) (.t 9))])
     (.seq (.cond (.t 11)
       .skip
       (.exit 0))
     (.seq (.block 1 (.seq (.region false [.val none (some 12) (.ia (.t 8) (.t 10) 20),
          .val none (some 13) (.ld (.t 12) 20 true),
          .box none 4 (.c (.agg [.int .i64 0, .int .i64 0, .int .i64 0, .int .i64 0, .int .i64 0, .int .i64 0, .int .i64 0, .int .i64 0, .nsl, .int .i64 0, .int .i64 0, .int .i64 0, .int .i64 0, .nsl, .nsl, .nsl, .nsl, .nsl, .nsl, .nsl])) 20,
          .st none (.t 4) (.t 13) 20])
       (.seq (.seq (.region false [.val none (some 14) (.fa (.t 4) 0),
           .val none (some 15) (.fa (.t 14) 16),
           .val none (some 16) (.ld (.t 15) 1 false),
           .val none (some 17) (.len (.t 16)),
           .val none (some 18) (.bin .gtr (.t 17) (.c (.int .i64 0))),
           .val none (some 19) (.mv (.t 18)),
           .val (some (19, false)) (some 20) (.fa (.t 4) 0),
           .val (some (19, false)) (some 21) (.fa (.t 20) 17),
           .val (some (19, false)) (some 22) (.ld (.t 21) 1 false),
           .val (some (19, false)) (some 23) (.len (.t 22)),
           .val (some (19, false)) (some 24) (.bin .gtr (.t 23) (.c (.int .i64 0))),
           .val none (some 25) (.pick (.t 19) (.c (.bool true)) (.t 24)),
           .val none (some 26) (.mv (.t 25)),
           .val (some (26, false)) (some 27) (.fa (.t 4) 0),
           .val (some (26, false)) (some 28) (.fa (.t 27) 18),
           .val (some (26, false)) (some 29) (.ld (.t 28) 1 false),
           .val (some (26, false)) (some 30) (.len (.t 29)),
           .val (some (26, false)) (some 31) (.bin .gtr (.t 30) (.c (.int .i64 0))),
           .val none (some 32) (.pick (.t 26) (.c (.bool true)) (.t 31))])
        (.cond (.t 32)
         (.seq (.region false [.val none (some 2) (.mv (.c (.bool false)))])
         .ret)
         .skip))
       (.seq (.region false [.val none (some 5) (.mv (.c (.bool false)))])
       (.seq (.seq (.region false [.val none (some 33) (.fa (.t 4) 0),
           .val none (some 34) (.fa (.t 33) 0),
           .val none (some 35) (.ld (.t 34) 1 false)])
        a7_b2)
       (.seq (.seq (.region false [.val none (some 66) (.fa (.t 4) 19),
           .val none (some 67) (.ld (.t 66) 1 false),
           .val none (some 68) (.len (.t 67)),
           .val none (some 69) (.mv (.c (.int .i64 0)))])
        (.block 3 (.loop [0, 5, 8, 9, 10, 67, 68, 69] []
          (.seq (.region false [.val none (some 70) (.bin .lss (.t 69) (.t 68))])
          (.seq (.cond (.t 70)
            .skip
            (.exit 3))
          (.seq (.block 4 (.seq (.region false [.val none (some 71) (.ia (.t 67) (.t 69) 1),
               .val none (some 72) (.ld (.t 71) 1 false),
               .val none (some 7) (.mv (.t 72))])
            (.region false [.val none (some 73) (.mv (.t 5)),
              .val none (some 74) (.mv (.t 73)),
              .val (some (74, true)) (some 75) (.mv (.t 7)),
              .val (some (74, true)) (some 76) (.bin .geq (.t 75) (.c (.int .i64 0))),
              .val none (some 77) (.pick (.t 74) (.t 76) (.c (.bool false))),
              .val none (some 78) (.mv (.t 77)),
              .val (some (78, true)) (some 79) (.mv (.t 7)),
              .val (some (78, true)) (some 80) (.mv (.t 0)),
              .val (some (78, true)) (some 81) (.len (.t 80)),
              .val (some (78, true)) (some 82) (.bin .lss (.t 79) (.t 81)),
              .val none (some 83) (.pick (.t 78) (.t 82) (.c (.bool false))),
              .val none (some 5) (.mv (.t 83))])))
          (.region false [.val none (some 84) (.bin .add (.t 69) (.c (.int .i64 1))),
            .val none (some 69) (.mv (.t 84))])))))))
       (.seq (.region false [.val none (some 85) (.mv (.t 5)),
          .val none (some 86) (.un .not (.t 85))])
       (.cond (.t 86)
        (.seq (.region false [.val none (some 2) (.mv (.c (.bool false)))])
        .ret)
        .skip))))))))
     (.region false [.val none (some 87) (.bin .add (.t 10) (.c (.int .i64 1))),
       .val none (some 10) (.mv (.t 87))])))))))
  (.seq (.region false [.val none (some 88) (.mv (.t 0)),
     .val none (some 89) (.len (.t 88)),
     .val none (some 90) (.bin .gtr (.t 89) (.c (.int .i64 0))),
     .val none (some 2) (.mv (.t 90))])
  .ret))) }

def a8_r7 : ACode :=
  .region false [.val none (some 25) (.mv (.t 6)),
    .val none (some 26) (.bin .geq (.t 25) (.c (.int .i64 0))),
    .val none (some 27) (.mv (.t 26)),
    .val (some (27, true)) (some 28) (.mv (.t 6)),
    .val (some (27, true)) (some 29) (.bin .leq (.t 28) (.c (.int .i64 6))),
    .val none (some 30) (.pick (.t 27) (.t 29) (.c (.bool false))),
    .val none (some 31) (.mv (.t 30)),
    .val (some (31, true)) (some 32) (.mv (.t 5)),
    .val (some (31, true)) (some 33) (.bin .eql (.t 32) (.c (.int .i64 1))),
    .val none (some 34) (.pick (.t 31) (.t 33) (.c (.bool false))),
    .val none (some 35) (.mv (.t 34)),
    .val (some (35, false)) (some 36) (.mv (.t 6)),
    .val (some (35, false)) (some 37) (.bin .eql (.t 36) (.c (.int .i64 7))),
    .val (some (35, false)) (some 38) (.mv (.t 37)),
    .val (some (38, true)) (some 39) (.mv (.t 5)),
    .val (some (38, true)) (some 40) (.bin .eql (.t 39) (.c (.int .i64 2))),
    .val (some (35, false)) (some 41) (.pick (.t 38) (.t 40) (.c (.bool false))),
    .val none (some 42) (.pick (.t 35) (.c (.bool true)) (.t 41)),
    .val none (some 43) (.mv (.t 42)),
    .val (some (43, false)) (some 44) (.mv (.t 6)),
    .val (some (43, false)) (some 45) (.bin .eql (.t 44) (.c (.int .i64 11))),
    .val (some (43, false)) (some 46) (.mv (.t 45)),
    .val (some (46, true)) (some 47) (.mv (.t 5)),
    .val (some (46, true)) (some 48) (.bin .gtr (.t 47) (.c (.int .i64 0))),
    .val (some (43, false)) (some 49) (.pick (.t 46) (.t 48) (.c (.bool false))),
    .val none (some 50) (.pick (.t 43) (.c (.bool true)) (.t 49)),
    .val none (some 51) (.mv (.t 50)),
    .val (some (51, false)) (some 52) (.mv (.t 6)),
    .val (some (51, false)) (some 53) (.bin .eql (.t 52) (.c (.int .i64 14))),
    .val (some (51, false)) (some 54) (.mv (.t 53)),
    .val (some (54, true)) (some 55) (.mv (.t 5)),
    .val (some (54, true)) (some 56) (.bin .eql (.t 55) (.c (.int .i64 0))),
    .val (some (51, false)) (some 57) (.pick (.t 54) (.t 56) (.c (.bool false))),
    .val none (some 58) (.pick (.t 51) (.c (.bool true)) (.t 57)),
    .val none (some 7) (.mv (.t 58))]

def a8_r11 : ACode :=
  .region false [.val none (some 64) (.mv (.t 7)),
    .val none (some 65) (.mv (.t 64)),
    .val (some (65, true)) (some 66) (.fa (.t 4) 19),
    .val (some (65, true)) (some 67) (.ld (.t 66) 1 false),
    .val (some (65, true)) (some 68) (.mv (.t 8)),
    .val (some (65, true)) (some 69) (.ia (.t 67) (.t 68) 1),
    .val (some (65, true)) (some 70) (.ld (.t 69) 1 false),
    .val (some (65, true)) (some 71) (.bin .geq (.t 70) (.c (.int .i64 0))),
    .val none (some 72) (.pick (.t 65) (.t 71) (.c (.bool false))),
    .val none (some 73) (.mv (.t 72)),
    .val (some (73, true)) (some 74) (.fa (.t 4) 19),
    .val (some (73, true)) (some 75) (.ld (.t 74) 1 false),
    .val (some (73, true)) (some 76) (.mv (.t 8)),
    .val (some (73, true)) (some 77) (.ia (.t 75) (.t 76) 1),
    .val (some (73, true)) (some 78) (.ld (.t 77) 1 false),
    .val (some (73, true)) (some 79) (.mv (.t 0)),
    .val (some (73, true)) (some 80) (.len (.t 79)),
    .val (some (73, true)) (some 81) (.bin .lss (.t 78) (.t 80)),
    .val none (some 82) (.pick (.t 73) (.t 81) (.c (.bool false))),
    .val none (some 7) (.mv (.t 82))]

/-- ladderback/ladderbackref40.Right -/
def a8 : AFn := { ntmps := 105, results := [.tmp 2], body :=
  (.seq (.region false [.val none (some 2) (.mv (.c (.bool false)))])
  (.seq (.seq (.region false [.val none (some 3) (.mv (.c (.int .i64 0)))])
   (.block 0 (.loop [0, 3] []
     (.seq (.seq (.region false [.val none (some 9) (.mv (.t 3)),
         .val none (some 10) (.mv (.t 0)),
         .val none (some 11) (.len (.t 10)),
         .val none (some 12) (.bin .lss (.t 9) (.t 11))])
      (.cond (.t 12)
       .skip
       (.exit 0)))
     (.seq (.block 1 (.seq (.region false [.val none (some 15) (.mv (.t 0)),
          .val none (some 16) (.mv (.t 3)),
          .val none (some 17) (.ia (.t 15) (.t 16) 20),
          .val none (some 18) (.ld (.t 17) 20 true),
          .box none 4 (.c (.agg [.int .i64 0, .int .i64 0, .int .i64 0, .int .i64 0, .int .i64 0, .int .i64 0, .int .i64 0, .int .i64 0, .nsl, .int .i64 0, .int .i64 0, .int .i64 0, .int .i64 0, .nsl, .nsl, .nsl, .nsl, .nsl, .nsl, .nsl])) 20,
          .st none (.t 4) (.t 18) 20])
       (.seq (.region false [.val none (some 19) (.fa (.t 4) 19),
          .val none (some 20) (.ld (.t 19) 1 false),
          .val none (some 21) (.len (.t 20)),
          .val none (some 5) (.mv (.t 21))])
       (.seq (.region false [.val none (some 22) (.fa (.t 4) 0),
          .val none (some 23) (.fa (.t 22) 0),
          .val none (some 24) (.ld (.t 23) 1 false),
          .val none (some 6) (.mv (.t 24))])
       (.seq a8_r7
       (.seq (.seq (.region false [.val none (some 8) (.mv (.c (.int .i64 0)))])
        (.block 2 (.loop [0, 3, 4, 5, 7, 8] [4]
          (.seq (.seq (.region false [.val none (some 59) (.mv (.t 8)),
              .val none (some 60) (.mv (.t 5)),
              .val none (some 61) (.bin .lss (.t 59) (.t 60))])
           (.cond (.t 61)
            .skip
            (.exit 2)))
          (.seq (.block 3 a8_r11)
          (.region false [.val none (some 62) (.mv (.t 8)),
            .val none (some 63) (.bin .add (.t 62) (.c (.int .i64 1))),
            .val none (some 8) (.mv (.t 63))]))))))
       (.seq (.region false [.val none (some 83) (.mv (.t 7)),
          .val none (some 84) (.un .not (.t 83)),
          .val none (some 85) (.mv (.t 84)),
          .val (some (85, false)) (some 86) (.fa (.t 4) 0),
          .val (some (85, false)) (some 87) (.fa (.t 86) 16),
          .val (some (85, false)) (some 88) (.ld (.t 87) 1 false),
          .val (some (85, false)) (some 89) (.len (.t 88)),
          .val (some (85, false)) (some 90) (.fa (.t 4) 0),
          .val (some (85, false)) (some 91) (.fa (.t 90) 17),
          .val (some (85, false)) (some 92) (.ld (.t 91) 1 false),
          .val (some (85, false)) (some 93) (.len (.t 92)),
          .val (some (85, false)) (some 94) (.bin .add (.t 89) (.t 93)),
          .val (some (85, false)) (some 95) (.fa (.t 4) 0),
          .val (some (85, false)) (some 96) (.fa (.t 95) 18),
          .val (some (85, false)) (some 97) (.ld (.t 96) 1 false),
          .val (some (85, false)) (some 98) (.len (.t 97)),
          .val (some (85, false)) (some 99) (.bin .add (.t 94) (.t 98)),
          .val (some (85, false)) (some 100) (.bin .gtr (.t 99) (.c (.int .i64 0))),
          .val none (some 101) (.pick (.t 85) (.c (.bool true)) (.t 100))])
       (.cond (.t 101)
        (.seq (.region false [.val none (some 2) (.mv (.c (.bool false)))])
        .ret)
        .skip))))))))
     (.region false [.val none (some 13) (.mv (.t 3)),
       .val none (some 14) (.bin .add (.t 13) (.c (.int .i64 1))),
       .val none (some 3) (.mv (.t 14))]))))))
  (.seq (.region false [.val none (some 102) (.mv (.t 0)),
     .val none (some 103) (.len (.t 102)),
     .val none (some 104) (.bin .gtr (.t 103) (.c (.int .i64 0))),
     .val none (some 2) (.mv (.t 104))])
  .ret))) }

/-- ladderback/ladderbackref40.Same -/
def a9 : AFn := { ntmps := 143, results := [.tmp 4], body :=
  (.seq (.region false [.val none (some 4) (.mv (.c (.bool false)))])
  (.seq (.seq (.region false [.val none (some 15) (.mv (.t 0)),
      .call none (some 16) 8 [.t 15],
      .val none (some 17) (.un .not (.t 16)),
      .val none (some 18) (.mv (.t 17)),
      .val (some (18, false)) (some 19) (.mv (.t 1)),
      .call (some (18, false)) (some 20) 8 [.t 19],
      .val (some (18, false)) (some 21) (.un .not (.t 20)),
      .val none (some 22) (.pick (.t 18) (.c (.bool true)) (.t 21))])
   (.cond (.t 22)
    (.seq (.region false [.val none (some 4) (.mv (.c (.bool false)))])
    .ret)
    .skip))
  (.seq (.region false [.val none (some 23) (.mv (.t 0)),
     .val none (some 24) (.len (.t 23)),
     .val none (some 25) (.mv (.t 1)),
     .val none (some 26) (.len (.t 25)),
     .val none (some 27) (.bin .mul (.t 24) (.t 26)),
     .mks none 28 (.t 27) (.t 27) 1 1 [.bool false],
     .val none (some 5) (.mv (.t 28))])
  (.seq (.region false [.val none (some 29) (.mv (.t 5)),
     .val none (some 30) (.ia (.t 29) (.c (.int .i64 0)) 1),
     .st none (.t 30) (.c (.bool true)) 1])
  (.seq (.seq (.region false [.val none (some 6) (.mv (.c (.int .i64 0)))])
   (.block 0 (.loop [0, 1, 5, 6] []
     (.seq (.seq (.region false [.val none (some 31) (.mv (.t 6)),
         .val none (some 32) (.mv (.t 5)),
         .val none (some 33) (.len (.t 32)),
         .val none (some 34) (.bin .leq (.t 31) (.t 33))])
      (.cond (.t 34)
       .skip
       (.exit 0)))
     (.seq (.block 1 (.seq (.region false [.val none (some 7) (.mv (.c (.bool false)))])
       (.seq (.seq (.region false [.val none (some 8) (.mv (.c (.int .i64 0)))])
        (.block 2 (.loop [0, 1, 5, 6, 7, 8] []
          (.seq (.seq (.region false [.val none (some 37) (.mv (.t 8)),
              .val none (some 38) (.mv (.t 5)),
              .val none (some 39) (.len (.t 38)),
              .val none (some 40) (.bin .lss (.t 37) (.t 39))])
           (.cond (.t 40)
            .skip
            (.exit 2)))
          (.seq (.block 3 (.seq (.seq (.region false [.val none (some 43) (.mv (.t 5)),
                .val none (some 44) (.mv (.t 8)),
                .val none (some 45) (.ia (.t 43) (.t 44) 1),
                .val none (some 46) (.ld (.t 45) 1 false),
                .val none (some 47) (.un .not (.t 46))])
             (.cond (.t 47)
              (.exit 3)
              .skip))
            (.seq (.region false [.val none (some 49) (.mv (.t 0)),
               .val none (some 50) (.mv (.t 8)),
               .val none (some 51) (.mv (.t 1)),
               .val none (some 52) (.len (.t 51)),
               .val none (some 53) (.bin .quo (.t 50) (.t 52)),
               .call none (some 54) 15 [.t 49, .t 53],
               .val none (some 48) (.mv (.t 54)),
               .val none (some 55) (.ext (.t 48) 0),
               .val none (some 56) (.ext (.t 48) 1),
               .val none (some 9) (.mv (.t 55)),
               .val none (some 10) (.mv (.t 56))])
            (.seq (.region false [.val none (some 58) (.mv (.t 1)),
               .val none (some 59) (.mv (.t 8)),
               .val none (some 60) (.mv (.t 1)),
               .val none (some 61) (.len (.t 60)),
               .val none (some 62) (.bin .rem (.t 59) (.t 61)),
               .call none (some 63) 15 [.t 58, .t 62],
               .val none (some 57) (.mv (.t 63)),
               .val none (some 64) (.ext (.t 57) 0),
               .val none (some 65) (.ext (.t 57) 1),
               .val none (some 11) (.mv (.t 64)),
               .val none (some 12) (.mv (.t 65))])
            (.seq (.seq (.region false [.val none (some 66) (.mv (.t 9)),
                .val none (some 67) (.bin .lss (.t 66) (.c (.int .i64 0))),
                .val none (some 68) (.mv (.t 67)),
                .val (some (68, true)) (some 69) (.mv (.t 11)),
                .val (some (68, true)) (some 70) (.bin .lss (.t 69) (.c (.int .i64 0))),
                .val none (some 71) (.pick (.t 68) (.t 70) (.c (.bool false)))])
             (.cond (.t 71)
              (.exit 3)
              .skip))
            (.seq (.seq (.region true [.val none (some 72) (.mv (.t 9)),
                .val none (some 73) (.bin .lss (.t 72) (.c (.int .i64 0))),
                .val none (some 74) (.mv (.t 73)),
                .val (some (74, false)) (some 75) (.mv (.t 11)),
                .val (some (74, false)) (some 76) (.bin .lss (.t 75) (.c (.int .i64 0))),
                .val none (some 77) (.pick (.t 74) (.c (.bool true)) (.t 76)),
                .val none (some 78) (.mv (.t 77)),
                .val (some (78, false)) (some 79) (.mv (.t 10)),
                .val (some (78, false)) (some 80) (.mv (.t 12)),
                .val (some (78, false)) (some 81) (.bin .neq (.t 79) (.t 80)),
                .val none (some 82) (.pick (.t 78) (.c (.bool true)) (.t 81)),
                .val none (some 83) (.mv (.t 82)),
                .val (some (83, false)) (some 84) (.mv (.t 0)),
                .val (some (83, false)) (some 85) (.mv (.t 9)),
                .val (some (83, false)) (some 86) (.ia (.t 84) (.t 85) 20),
                .val (some (83, false)) (some 87) (.fa (.t 86) 0),
                .val (some (83, false)) (some 88) (.ld (.t 87) 19 true),
                .val (some (83, false)) (some 89) (.mv (.t 1)),
                .val (some (83, false)) (some 90) (.mv (.t 11)),
                .val (some (83, false)) (some 91) (.ia (.t 89) (.t 90) 20),
                .val (some (83, false)) (some 92) (.fa (.t 91) 0),
                .val (some (83, false)) (some 93) (.ld (.t 92) 19 true),
                .call (some (83, false)) (some 94) 16 [.t 88, .t 93],
                .val (some (83, false)) (some 95) (.un .not (.t 94)),
                .val none (some 96) (.pick (.t 83) (.c (.bool true)) (.t 95))])
             (.cond (.t 96)
              (.seq (.region false [.val none (some 4) (.mv (.c (.bool false)))])
              .ret)
              .skip))
            (.seq (.region false [.val none (some 13) (.mv (.c (.int .i64 0)))])
            (.block 4 (.loop [0, 1, 5, 6, 7, 8, 9, 11, 13] []
              (.seq (.seq (.region false [.val none (some 97) (.mv (.t 13)),
                  .val none (some 98) (.mv (.t 0)),
                  .val none (some 99) (.mv (.t 9)),
                  .val none (some 100) (.ia (.t 98) (.t 99) 20),
                  .val none (some 101) (.fa (.t 100) 19),
                  .val none (some 102) (.ld (.t 101) 1 false),
                  .val none (some 103) (.len (.t 102)),
                  .val none (some 104) (.bin .lss (.t 97) (.t 103)),
                  .val none (some 105) (.mv (.t 104)),
                  .val (some (105, false)) (some 106) (.mv (.t 13)),
                  .val (some (105, false)) (some 107) (.mv (.t 1)),
                  .val (some (105, false)) (some 108) (.mv (.t 11)),
                  .val (some (105, false)) (some 109) (.ia (.t 107) (.t 108) 20),
                  .val (some (105, false)) (some 110) (.fa (.t 109) 19),
                  .val (some (105, false)) (some 111) (.ld (.t 110) 1 false),
                  .val (some (105, false)) (some 112) (.len (.t 111)),
                  .val (some (105, false)) (some 113) (.bin .lss (.t 106) (.t 112)),
                  .val none (some 114) (.pick (.t 105) (.c (.bool true)) (.t 113))])
               (.cond (.t 114)
                .skip
                (.exit 4)))
              (.seq (.block 5 (.seq (.region true [.val none (some 117) (.mv (.t 0)),
                   .val none (some 118) (.mv (.t 9)),
                   .val none (some 119) (.ia (.t 117) (.t 118) 20),
                   .val none (some 120) (.ld (.t 119) 20 true),
                   .val none (some 121) (.mv (.t 13)),
                   .call none (some 122) 17 [.t 120, .t 121],
                   .val none (some 123) (.mv (.t 1)),
                   .val none (some 124) (.len (.t 123)),
                   .val none (some 125) (.bin .mul (.t 122) (.t 124)),
                   .val none (some 126) (.mv (.t 1)),
                   .val none (some 127) (.mv (.t 11)),
                   .val none (some 128) (.iaf (.t 126) (.t 127) 20),
                   .val none (some 129) (.ldf (.t 128) 20 true),
                   .val none (some 130) (.mv (.t 13)),
                   .call none (some 131) 17 [.t 129, .t 130],
                   .val none (some 132) (.bin .add (.t 125) (.t 131)),
                   .val none (some 14) (.mv (.t 132))])
                (.seq (.region false [.val none (some 133) (.mv (.t 5)),
                   .val none (some 134) (.mv (.t 14)),
                   .val none (some 135) (.ia (.t 133) (.t 134) 1),
                   .val none (some 136) (.ld (.t 135) 1 false),
                   .val none (some 137) (.un .not (.t 136))])
                (.cond (.t 137)
                 (.seq (.region false [.val none (some 138) (.mv (.t 5)),
                    .val none (some 139) (.mv (.t 14)),
                    .val none (some 140) (.ia (.t 138) (.t 139) 1),
                    .st none (.t 140) (.c (.bool true)) 1])
                 (.region false [.val none (some 7) (.mv (.c (.bool true)))]))
                 .skip))))
              (.region false [.val none (some 115) (.mv (.t 13)),
                .val none (some 116) (.bin .add (.t 115) (.c (.int .i64 1))),
                .val none (some 13) (.mv (.t 116))]))))))))))))
          (.region false [.val none (some 41) (.mv (.t 8)),
            .val none (some 42) (.bin .add (.t 41) (.c (.int .i64 1))),
            .val none (some 8) (.mv (.t 42))]))))))
       (.seq (.region false [.val none (some 141) (.mv (.t 7)),
          .val none (some 142) (.un .not (.t 141))])
       (.cond (.t 142)
        (.seq (.region false [.val none (some 4) (.mv (.c (.bool true)))])
        .ret)
        .skip)))))
     (.region false [.val none (some 35) (.mv (.t 6)),
       .val none (some 36) (.bin .add (.t 35) (.c (.int .i64 1))),
       .val none (some 6) (.mv (.t 36))]))))))
  (.seq (.region false [.val none (some 4) (.mv (.c (.bool true)))])
  .ret)))))) }

/-- ladderback/ladderbackref28.Few -/
def a10 : AFn := { ntmps := 9, results := [.tmp 4], body :=
  (.seq (.region false [.val none (some 4) (.mv (.c (.bool false)))])
  (.seq (.region false [.val none (some 5) (.mv (.t 0)),
     .val none (some 6) (.mv (.t 1)),
     .call none (some 7) 18 [.t 5, .t 6, .c (.int .i64 40)],
     .val none (some 8) (.bin .geq (.t 7) (.c (.int .i64 0))),
     .val none (some 4) (.mv (.t 8))])
  .ret)) }

/-- ladderback/graph.Stmts -/
def a11 : AFn := { ntmps := 35, results := [.tmp 2], body :=
  (.seq (.region false [.val none (some 2) (.mv (.c (.nsl)))])
  (.seq (.region false [.val none (some 6) (.build [.nsl] []),
     .hbox none 7 (.t 6) 1,
     .val none (some 3) (.mv (.t 7))])
  (.seq (.region false [.val none (some 8) (.mv (.t 3)),
     .val none (some 9) (.build [.int .i64 0, .int .i64 0, .int .i64 0, .int .i64 0, .int .i64 0, .int .i64 0, .int .i64 0, .int .i64 0, .nsl, .int .i64 0, .int .i64 0, .int .i64 0, .int .i64 0, .nsl, .nsl, .nsl, .nsl, .nsl, .nsl] [(0, 1, .c (.int .i64 0))]),
     .bsl none 10 1 1 [.int .i64 0] [(0, 1, .c (.int .i64 0))],
     .call none (some 11) 19 [.t 8, .t 9, .t 10]])
  (.seq (.region false [.val none (some 12) (.mv (.t 3)),
     .val none (some 13) (.build [.int .i64 0, .int .i64 0, .int .i64 0, .int .i64 0, .int .i64 0, .int .i64 0, .int .i64 0, .int .i64 0, .nsl, .int .i64 0, .int .i64 0, .int .i64 0, .int .i64 0, .nsl, .nsl, .nsl, .nsl, .nsl, .nsl] [(0, 1, .c (.int .i64 14))]),
     .call none (some 14) 19 [.t 12, .t 13, .c (.nsl)],
     .val none (some 4) (.mv (.t 14))])
  (.seq (.region false [.val none (some 15) (.mv (.t 3)),
     .val none (some 16) (.mv (.t 0)),
     .val none (some 17) (.mv (.t 4)),
     .val none (some 18) (.mv (.t 4)),
     .val none (some 19) (.mv (.t 4)),
     .val none (some 20) (.build [.int .i64 0, .int .i64 0, .int .i64 0] [(0, 1, .t 17), (1, 1, .t 18), (2, 1, .t 19)]),
     .call none (some 21) 20 [.t 15, .t 16, .t 20],
     .val none (some 5) (.mv (.t 21))])
  (.seq (.region false [.val none (some 22) (.mv (.t 3)),
     .val none (some 23) (.nc (.t 22)),
     .val none (some 24) (.fa (.t 23) 0),
     .val none (some 25) (.ld (.t 24) 1 false),
     .val none (some 26) (.ia (.t 25) (.c (.int .i64 0)) 20),
     .val none (some 27) (.fa (.t 26) 19),
     .val none (some 28) (.ld (.t 27) 1 false),
     .val none (some 29) (.mv (.t 5)),
     .val none (some 30) (.ia (.t 28) (.c (.int .i64 0)) 1),
     .st none (.t 30) (.t 29) 1])
  (.seq (.region false [.val none (some 31) (.mv (.t 3)),
     .val none (some 32) (.nc (.t 31)),
     .val none (some 33) (.fa (.t 32) 0),
     .val none (some 34) (.ld (.t 33) 1 false),
     .val none (some 2) (.mv (.t 34))])
  .ret))))))) }

/-- ladderback/graph.behind -/
def a12 : AFn := { ntmps := 48, results := [.tmp 4, .tmp 5], body :=
  (.seq (.region false [.val none (some 4) (.mv (.c (.int .i64 0))),
     .val none (some 5) (.mv (.c (.int .i64 0)))])
  (.seq (.region false [.val none (some 6) (.mv (.c (.int .i64 0)))])
  (.seq (.region false [.val none (some 8) (.mv (.t 0)),
     .val none (some 9) (.len (.t 8)),
     .call none (some 10) 21 [.t 9],
     .box none 7 (.c (.agg [.int .i64 0, .nsl])) 2,
     .st none (.t 7) (.t 10) 2])
  (.seq (.block 0 (.loop [0, 1, 6, 7] [7]
     (.seq (.seq (.region false [.val none (some 11) (.mv (.t 0)),
         .val none (some 12) (.mv (.t 1)),
         .val none (some 13) (.ia (.t 11) (.t 12) 20),
         .val none (some 14) (.fa (.t 13) 0),
         .val none (some 15) (.fa (.t 14) 0),
         .val none (some 16) (.ld (.t 15) 1 false),
         .val none (some 17) (.bin .eql (.t 16) (.c (.int .i64 0)))])
      (.cond (.t 17)
       .skip
       (.exit 0)))
     (.block 1 (.seq (.seq (.region false [.val none (some 18) (.ld (.t 7) 2 true),
          .val none (some 19) (.mv (.t 1)),
          .call none (some 20) 22 [.t 18, .t 19]])
       (.cond (.t 20)
        (.seq (.region false [.val none (some 4) (.mv (.c (.int .i64 (-1)))),
           .val none (some 5) (.mv (.c (.int .i64 0)))])
        .ret)
        .skip))
      (.seq (.region false [.val none (some 21) (.ld (.t 7) 2 true),
         .val none (some 22) (.mv (.t 1)),
         .call none (some 23) 23 [.t 21, .t 22],
         .st none (.t 7) (.t 23) 2])
      (.seq (.region false [.val none (some 24) (.mv (.t 6)),
         .val none (some 25) (.mv (.t 0)),
         .val none (some 26) (.mv (.t 1)),
         .val none (some 27) (.ia (.t 25) (.t 26) 20),
         .val none (some 28) (.fa (.t 27) 0),
         .val none (some 29) (.fa (.t 28) 1),
         .val none (some 30) (.ld (.t 29) 1 false),
         .val none (some 31) (.bin .add (.t 24) (.t 30)),
         .val none (some 6) (.mv (.t 31))])
      (.region false [.val none (some 32) (.mv (.t 0)),
        .val none (some 33) (.mv (.t 1)),
        .val none (some 34) (.ia (.t 32) (.t 33) 20),
        .val none (some 35) (.fa (.t 34) 19),
        .val none (some 36) (.ld (.t 35) 1 false),
        .val none (some 37) (.ia (.t 36) (.c (.int .i64 0)) 1),
        .val none (some 38) (.ld (.t 37) 1 false),
        .val none (some 1) (.mv (.t 38))]))))))))
  (.seq (.region true [.val none (some 39) (.mv (.t 1)),
     .val none (some 40) (.mv (.t 6)),
     .val none (some 41) (.mv (.t 0)),
     .val none (some 42) (.mv (.t 1)),
     .val none (some 43) (.ia (.t 41) (.t 42) 20),
     .val none (some 44) (.fa (.t 43) 0),
     .val none (some 45) (.fa (.t 44) 1),
     .val none (some 46) (.ld (.t 45) 1 false),
     .val none (some 47) (.bin .add (.t 40) (.t 46)),
     .val none (some 4) (.mv (.t 39)),
     .val none (some 5) (.mv (.t 47))])
  .ret))))) }

/-- ladderback/stmt.Same -/
def a13 : AFn := { ntmps := 8, results := [.tmp 4], body :=
  (.seq (.region false [.val none (some 4) (.mv (.c (.bool false)))])
  (.seq (.region false [.val none (some 5) (.mv (.t 0)),
     .val none (some 6) (.mv (.t 1)),
     .call none (some 7) 24 [.t 5, .t 6, .c (.fn 25 [])],
     .val none (some 4) (.mv (.t 7))])
  .ret)) }

/-- ladderback/graph.next -/
def a14 : AFn := { ntmps := 15, results := [.tmp 4], body :=
  (.seq (.region false [.box none 2 (.t 0) 20,
     .val none (some 4) (.mv (.c (.int .i64 0)))])
  (.seq (.region false [.val none (some 5) (.fa (.t 2) 19),
     .val none (some 6) (.ld (.t 5) 1 false),
     .val none (some 7) (.mv (.t 1)),
     .val none (some 8) (.fa (.t 2) 19),
     .val none (some 9) (.ld (.t 8) 1 false),
     .val none (some 10) (.len (.t 9)),
     .val none (some 11) (.bin .sub (.t 10) (.c (.int .i64 1))),
     .val none (some 12) (.mn (.t 7) (.t 11)),
     .val none (some 13) (.ia (.t 6) (.t 12) 1),
     .val none (some 14) (.ld (.t 13) 1 false),
     .val none (some 4) (.mv (.t 14))])
  .ret)) }

/-- ladderback/ladderbackref40.Behind -/
def a15 : AFn := { ntmps := 45, results := [.tmp 4, .tmp 5], body :=
  (.seq (.region false [.val none (some 4) (.mv (.c (.int .i64 0))),
     .val none (some 5) (.mv (.c (.int .i64 0)))])
  (.seq (.region false [.val none (some 6) (.mv (.c (.int .i64 0)))])
  (.seq (.seq (.region false [.val none (some 7) (.mv (.c (.int .i64 0)))])
   (.block 0 (.loop [0, 1, 6, 7] []
     (.seq (.seq (.region false [.val none (some 8) (.mv (.t 7)),
         .val none (some 9) (.mv (.t 0)),
         .val none (some 10) (.len (.t 9)),
         .val none (some 11) (.bin .leq (.t 8) (.t 10))])
      (.cond (.t 11)
       .skip
       (.exit 0)))
     (.seq (.block 1 (.seq (.seq (.region false [.val none (some 14) (.mv (.t 0)),
           .val none (some 15) (.mv (.t 1)),
           .val none (some 16) (.ia (.t 14) (.t 15) 20),
           .val none (some 17) (.fa (.t 16) 0),
           .val none (some 18) (.fa (.t 17) 0),
           .val none (some 19) (.ld (.t 18) 1 false),
           .val none (some 20) (.bin .neq (.t 19) (.c (.int .i64 0)))])
        (.cond (.t 20)
         (.seq (.region true [.val none (some 21) (.mv (.t 1)),
            .val none (some 22) (.mv (.t 6)),
            .val none (some 23) (.mv (.t 0)),
            .val none (some 24) (.mv (.t 1)),
            .val none (some 25) (.ia (.t 23) (.t 24) 20),
            .val none (some 26) (.fa (.t 25) 0),
            .val none (some 27) (.fa (.t 26) 1),
            .val none (some 28) (.ld (.t 27) 1 false),
            .val none (some 29) (.bin .add (.t 22) (.t 28)),
            .val none (some 4) (.mv (.t 21)),
            .val none (some 5) (.mv (.t 29))])
         .ret)
         .skip))
       (.seq (.region false [.val none (some 30) (.mv (.t 6)),
          .val none (some 31) (.mv (.t 0)),
          .val none (some 32) (.mv (.t 1)),
          .val none (some 33) (.ia (.t 31) (.t 32) 20),
          .val none (some 34) (.fa (.t 33) 0),
          .val none (some 35) (.fa (.t 34) 1),
          .val none (some 36) (.ld (.t 35) 1 false),
          .val none (some 37) (.bin .add (.t 30) (.t 36)),
          .val none (some 6) (.mv (.t 37))])
       (.region false [.val none (some 38) (.mv (.t 0)),
         .val none (some 39) (.mv (.t 1)),
         .val none (some 40) (.ia (.t 38) (.t 39) 20),
         .val none (some 41) (.fa (.t 40) 19),
         .val none (some 42) (.ld (.t 41) 1 false),
         .val none (some 43) (.ia (.t 42) (.c (.int .i64 0)) 1),
         .val none (some 44) (.ld (.t 43) 1 false),
         .val none (some 1) (.mv (.t 44))]))))
     (.region false [.val none (some 12) (.mv (.t 7)),
       .val none (some 13) (.bin .add (.t 12) (.c (.int .i64 1))),
       .val none (some 7) (.mv (.t 13))]))))))
  (.seq (.region false [.val none (some 4) (.mv (.c (.int .i64 (-1)))),
     .val none (some 5) (.mv (.c (.int .i64 0)))])
  .ret)))) }

/-- ladderback/ladderbackref28.One -/
def a16 : AFn := { ntmps := 153, results := [.tmp 4], body :=
  (.seq (.region false [.box none 2 (.t 0) 19,
     .box none 3 (.t 1) 19,
     .val none (some 4) (.mv (.c (.bool false)))])
  (.seq (.seq (.region false [.val none (some 7) (.fa (.t 2) 0),
      .val none (some 8) (.ld (.t 7) 1 false),
      .val none (some 9) (.fa (.t 3) 0),
      .val none (some 10) (.ld (.t 9) 1 false),
      .val none (some 11) (.bin .neq (.t 8) (.t 10)),
      .val none (some 12) (.mv (.t 11)),
      .val (some (12, false)) (some 13) (.fa (.t 2) 2),
      .val (some (12, false)) (some 14) (.ld (.t 13) 1 false),
      .val (some (12, false)) (some 15) (.fa (.t 3) 2),
      .val (some (12, false)) (some 16) (.ld (.t 15) 1 false),
      .val (some (12, false)) (some 17) (.bin .neq (.t 14) (.t 16)),
      .val none (some 18) (.pick (.t 12) (.c (.bool true)) (.t 17)),
      .val none (some 19) (.mv (.t 18)),
      .val (some (19, false)) (some 20) (.fa (.t 2) 3),
      .val (some (19, false)) (some 21) (.ld (.t 20) 1 false),
      .val (some (19, false)) (some 22) (.fa (.t 3) 3),
      .val (some (19, false)) (some 23) (.ld (.t 22) 1 false),
      .val (some (19, false)) (some 24) (.bin .neq (.t 21) (.t 23)),
      .val none (some 25) (.pick (.t 19) (.c (.bool true)) (.t 24)),
      .val none (some 26) (.mv (.t 25)),
      .val (some (26, false)) (some 27) (.fa (.t 2) 4),
      .val (some (26, false)) (some 28) (.ld (.t 27) 5 true),
      .val (some (26, false)) (some 29) (.fa (.t 3) 4),
      .val (some (26, false)) (some 30) (.ld (.t 29) 5 true),
      .call (some (26, false)) (some 31) 26 [.t 28, .t 30],
      .val (some (26, false)) (some 32) (.un .not (.t 31)),
      .val none (some 33) (.pick (.t 26) (.c (.bool true)) (.t 32)),
      .val none (some 34) (.mv (.t 33)),
      .val (some (34, false)) (some 35) (.fa (.t 2) 9),
      .val (some (34, false)) (some 36) (.ld (.t 35) 5 true),
      .val (some (34, false)) (some 37) (.fa (.t 3) 9),
      .val (some (34, false)) (some 38) (.ld (.t 37) 5 true),
      .call (some (34, false)) (some 39) 26 [.t 36, .t 38],
      .val (some (34, false)) (some 40) (.un .not (.t 39)),
      .val none (some 41) (.pick (.t 34) (.c (.bool true)) (.t 40)),
      .val none (some 42) (.mv (.t 41)),
      .val (some (42, false)) (some 43) (.fa (.t 2) 14),
      .val (some (42, false)) (some 44) (.ld (.t 43) 1 false),
      .val (some (42, false)) (some 45) (.fa (.t 3) 14),
      .val (some (42, false)) (some 46) (.ld (.t 45) 1 false),
      .call (some (42, false)) (some 47) 27 [.t 44, .t 46],
      .val (some (42, false)) (some 48) (.un .not (.t 47)),
      .val none (some 49) (.pick (.t 42) (.c (.bool true)) (.t 48)),
      .val none (some 50) (.mv (.t 49)),
      .val (some (50, false)) (some 51) (.fa (.t 2) 15),
      .val (some (50, false)) (some 52) (.ld (.t 51) 1 false),
      .val (some (50, false)) (some 53) (.len (.t 52)),
      .val (some (50, false)) (some 54) (.fa (.t 3) 15),
      .val (some (50, false)) (some 55) (.ld (.t 54) 1 false),
      .val (some (50, false)) (some 56) (.len (.t 55)),
      .val (some (50, false)) (some 57) (.bin .neq (.t 53) (.t 56)),
      .val none (some 58) (.pick (.t 50) (.c (.bool true)) (.t 57)),
      .val none (some 59) (.mv (.t 58)),
      .val (some (59, false)) (some 60) (.fa (.t 2) 18),
      .val (some (59, false)) (some 61) (.ld (.t 60) 1 false),
      .val (some (59, false)) (some 62) (.len (.t 61)),
      .val (some (59, false)) (some 63) (.fa (.t 3) 18),
      .val (some (59, false)) (some 64) (.ld (.t 63) 1 false),
      .val (some (59, false)) (some 65) (.len (.t 64)),
      .val (some (59, false)) (some 66) (.bin .neq (.t 62) (.t 65)),
      .val none (some 67) (.pick (.t 59) (.c (.bool true)) (.t 66))])
   (.cond (.t 67)
    (.seq (.region false [.val none (some 4) (.mv (.c (.bool false)))])
    .ret)
    .skip))
  (.seq (.seq (.region false [.val none (some 5) (.mv (.c (.int .i64 0)))])
   (.block 0 (.loop [2, 3, 5] [2, 3]
     (.seq (.seq (.region false [.val none (some 68) (.mv (.t 5)),
         .val none (some 69) (.fa (.t 2) 15),
         .val none (some 70) (.ld (.t 69) 1 false),
         .val none (some 71) (.len (.t 70)),
         .val none (some 72) (.bin .lss (.t 68) (.t 71))])
      (.cond (.t 72)
       .skip
       (.exit 0)))
     (.seq (.block 1 (.seq (.region true [.val none (some 75) (.fa (.t 2) 15),
          .val none (some 76) (.ld (.t 75) 1 false),
          .val none (some 77) (.mv (.t 5)),
          .val none (some 78) (.ia (.t 76) (.t 77) 6),
          .val none (some 79) (.fa (.t 78) 0),
          .val none (some 80) (.ld (.t 79) 1 false),
          .val none (some 81) (.fa (.t 3) 15),
          .val none (some 82) (.ld (.t 81) 1 false),
          .val none (some 83) (.mv (.t 5)),
          .val none (some 84) (.ia (.t 82) (.t 83) 6),
          .val none (some 85) (.fa (.t 84) 0),
          .val none (some 86) (.ld (.t 85) 1 false),
          .val none (some 87) (.bin .neq (.t 80) (.t 86)),
          .val none (some 88) (.mv (.t 87)),
          .val (some (88, false)) (some 89) (.fa (.t 2) 15),
          .val (some (88, false)) (some 90) (.ld (.t 89) 1 false),
          .val (some (88, false)) (some 91) (.mv (.t 5)),
          .val (some (88, false)) (some 92) (.ia (.t 90) (.t 91) 6),
          .val (some (88, false)) (some 93) (.fa (.t 92) 1),
          .val (some (88, false)) (some 94) (.ld (.t 93) 5 true),
          .val (some (88, false)) (some 95) (.fa (.t 3) 15),
          .val (some (88, false)) (some 96) (.ld (.t 95) 1 false),
          .val (some (88, false)) (some 97) (.mv (.t 5)),
          .val (some (88, false)) (some 98) (.ia (.t 96) (.t 97) 6),
          .val (some (88, false)) (some 99) (.fa (.t 98) 1),
          .val (some (88, false)) (some 100) (.ld (.t 99) 5 true),
          .call (some (88, false)) (some 101) 26 [.t 94, .t 100],
          .val (some (88, false)) (some 102) (.un .not (.t 101)),
          .val none (some 103) (.pick (.t 88) (.c (.bool true)) (.t 102))])
       (.cond (.t 103)
        (.seq (.region false [.val none (some 4) (.mv (.c (.bool false)))])
        .ret)
        .skip)))
     (.region false [.val none (some 73) (.mv (.t 5)),
       .val none (some 74) (.bin .add (.t 73) (.c (.int .i64 1))),
       .val none (some 5) (.mv (.t 74))]))))))
  (.seq (.seq (.region false [.val none (some 6) (.mv (.c (.int .i64 0)))])
   (.block 2 (.loop [2, 3, 6] [2, 3]
     (.seq (.seq (.region false [.val none (some 104) (.mv (.t 6)),
         .val none (some 105) (.fa (.t 2) 18),
         .val none (some 106) (.ld (.t 105) 1 false),
         .val none (some 107) (.len (.t 106)),
         .val none (some 108) (.bin .lss (.t 104) (.t 107))])
      (.cond (.t 108)
       .skip
       (.exit 2)))
     (.seq (.block 3 (.seq (.region true [.val none (some 111) (.fa (.t 2) 18),
          .val none (some 112) (.ld (.t 111) 1 false),
          .val none (some 113) (.mv (.t 6)),
          .val none (some 114) (.ia (.t 112) (.t 113) 2),
          .val none (some 115) (.fa (.t 114) 0),
          .val none (some 116) (.ld (.t 115) 1 false),
          .val none (some 117) (.fa (.t 3) 18),
          .val none (some 118) (.ld (.t 117) 1 false),
          .val none (some 119) (.mv (.t 6)),
          .val none (some 120) (.ia (.t 118) (.t 119) 2),
          .val none (some 121) (.fa (.t 120) 0),
          .val none (some 122) (.ld (.t 121) 1 false),
          .call none (some 123) 28 [.t 116, .t 122],
          .val none (some 124) (.un .not (.t 123)),
          .val none (some 125) (.mv (.t 124)),
          .val (some (125, false)) (some 126) (.fa (.t 2) 18),
          .val (some (125, false)) (some 127) (.ld (.t 126) 1 false),
          .val (some (125, false)) (some 128) (.mv (.t 6)),
          .val (some (125, false)) (some 129) (.ia (.t 127) (.t 128) 2),
          .val (some (125, false)) (some 130) (.fa (.t 129) 1),
          .val (some (125, false)) (some 131) (.ld (.t 130) 1 false),
          .val (some (125, false)) (some 132) (.fa (.t 3) 18),
          .val (some (125, false)) (some 133) (.ld (.t 132) 1 false),
          .val (some (125, false)) (some 134) (.mv (.t 6)),
          .val (some (125, false)) (some 135) (.ia (.t 133) (.t 134) 2),
          .val (some (125, false)) (some 136) (.fa (.t 135) 1),
          .val (some (125, false)) (some 137) (.ld (.t 136) 1 false),
          .call (some (125, false)) (some 138) 29 [.t 131, .t 137],
          .val (some (125, false)) (some 139) (.un .not (.t 138)),
          .val none (some 140) (.pick (.t 125) (.c (.bool true)) (.t 139))])
       (.cond (.t 140)
        (.seq (.region false [.val none (some 4) (.mv (.c (.bool false)))])
        .ret)
        .skip)))
     (.region false [.val none (some 109) (.mv (.t 6)),
       .val none (some 110) (.bin .add (.t 109) (.c (.int .i64 1))),
       .val none (some 6) (.mv (.t 110))]))))))
  (.seq (.region false [.val none (some 141) (.fa (.t 2) 16),
     .val none (some 142) (.ld (.t 141) 1 false),
     .val none (some 143) (.fa (.t 3) 16),
     .val none (some 144) (.ld (.t 143) 1 false),
     .call none (some 145) 29 [.t 142, .t 144],
     .val none (some 146) (.mv (.t 145)),
     .val (some (146, true)) (some 147) (.fa (.t 2) 17),
     .val (some (146, true)) (some 148) (.ld (.t 147) 1 false),
     .val (some (146, true)) (some 149) (.fa (.t 3) 17),
     .val (some (146, true)) (some 150) (.ld (.t 149) 1 false),
     .call (some (146, true)) (some 151) 29 [.t 148, .t 150],
     .val none (some 152) (.pick (.t 146) (.t 151) (.c (.bool false))),
     .val none (some 4) (.mv (.t 152))])
  .ret))))) }

/-- ladderback/ladderbackref40.label -/
def a17 : AFn := { ntmps := 23, results := [.tmp 4], body :=
  (.seq (.region false [.box none 2 (.t 0) 20,
     .val none (some 4) (.mv (.c (.int .i64 0)))])
  (.seq (.seq (.region false [.val none (some 5) (.mv (.t 1)),
      .val none (some 6) (.fa (.t 2) 19),
      .val none (some 7) (.ld (.t 6) 1 false),
      .val none (some 8) (.len (.t 7)),
      .val none (some 9) (.bin .geq (.t 5) (.t 8))])
   (.cond (.t 9)
    (.seq (.region false [.val none (some 10) (.fa (.t 2) 19),
       .val none (some 11) (.ld (.t 10) 1 false),
       .val none (some 12) (.fa (.t 2) 19),
       .val none (some 13) (.ld (.t 12) 1 false),
       .val none (some 14) (.len (.t 13)),
       .val none (some 15) (.bin .sub (.t 14) (.c (.int .i64 1))),
       .val none (some 16) (.ia (.t 11) (.t 15) 1),
       .val none (some 17) (.ld (.t 16) 1 false),
       .val none (some 4) (.mv (.t 17))])
    .ret)
    .skip))
  (.seq (.region false [.val none (some 18) (.fa (.t 2) 19),
     .val none (some 19) (.ld (.t 18) 1 false),
     .val none (some 20) (.mv (.t 1)),
     .val none (some 21) (.ia (.t 19) (.t 20) 1),
     .val none (some 22) (.ld (.t 21) 1 false),
     .val none (some 4) (.mv (.t 22))])
  .ret))) }

/-- ladderback/ladderbackref28.room -/
def a18 : AFn := { ntmps := 138, results := [.tmp 6], body :=
  (.seq (.region false [.val none (some 6) (.mv (.c (.int .i64 0)))])
  (.seq (.seq (.region false [.val none (some 12) (.mv (.t 0)),
      .val none (some 13) (.len (.t 12)),
      .val none (some 14) (.mv (.t 1)),
      .val none (some 15) (.bin .gtr (.t 13) (.t 14)),
      .val none (some 16) (.mv (.t 15)),
      .val (some (16, false)) (some 17) (.mv (.t 2)),
      .val (some (16, false)) (some 18) (.bin .lss (.t 17) (.c (.int .i64 1))),
      .val none (some 19) (.pick (.t 16) (.c (.bool true)) (.t 18))])
   (.cond (.t 19)
    (.seq (.region false [.val none (some 6) (.mv (.c (.int .i64 (-1))))])
    .ret)
    .skip))
  (.seq (.seq (.region false [.val none (some 7) (.mv (.c (.int .i64 0)))])
   (.block 0 (.loop [0, 1, 2, 7] []
     (.seq (.seq (.region false [.val none (some 20) (.mv (.t 7)),
         .val none (some 21) (.mv (.t 0)),
         .val none (some 22) (.len (.t 21)),
         .val none (some 23) (.bin .lss (.t 20) (.t 22))])
      (.cond (.t 23)
       .skip
       (.exit 0)))
     (.seq (.block 1 (.seq (.region false [.val none (some 26) (.mv (.t 0)),
          .val none (some 27) (.mv (.t 7)),
          .val none (some 28) (.ia (.t 26) (.t 27) 19),
          .val none (some 29) (.ld (.t 28) 19 true),
          .box none 8 (.c (.agg [.int .i64 0, .int .i64 0, .int .i64 0, .int .i64 0, .int .i64 0, .int .i64 0, .int .i64 0, .int .i64 0, .nsl, .int .i64 0, .int .i64 0, .int .i64 0, .int .i64 0, .nsl, .nsl, .nsl, .nsl, .nsl, .nsl])) 19,
          .st none (.t 8) (.t 29) 19])
       (.seq (.seq (.region false [.val none (some 30) (.mv (.t 1)),
           .val none (some 31) (.bin .lss (.t 30) (.c (.int .i64 1))),
           .val none (some 32) (.mv (.t 31)),
           .val (some (32, false)) (some 33) (.fa (.t 8) 14),
           .val (some (32, false)) (some 34) (.ld (.t 33) 1 false),
           .val (some (32, false)) (some 35) (.len (.t 34)),
           .val (some (32, false)) (some 36) (.bin .gtr (.t 35) (.c (.int .i64 20))),
           .val none (some 37) (.pick (.t 32) (.c (.bool true)) (.t 36)),
           .val none (some 38) (.mv (.t 37)),
           .val (some (38, false)) (some 39) (.fa (.t 8) 15),
           .val (some (38, false)) (some 40) (.ld (.t 39) 1 false),
           .val (some (38, false)) (some 41) (.len (.t 40)),
           .val (some (38, false)) (some 42) (.bin .gtr (.t 41) (.c (.int .i64 20))),
           .val none (some 43) (.pick (.t 38) (.c (.bool true)) (.t 42)),
           .val none (some 44) (.mv (.t 43)),
           .val (some (44, false)) (some 45) (.fa (.t 8) 18),
           .val (some (44, false)) (some 46) (.ld (.t 45) 1 false),
           .val (some (44, false)) (some 47) (.len (.t 46)),
           .val (some (44, false)) (some 48) (.bin .gtr (.t 47) (.c (.int .i64 60))),
           .val none (some 49) (.pick (.t 44) (.c (.bool true)) (.t 48)),
           .val none (some 50) (.mv (.t 49)),
           .val (some (50, false)) (some 51) (.fa (.t 8) 4),
           .val (some (50, false)) (some 52) (.ld (.t 51) 5 true),
           .call (some (50, false)) (some 53) 30 [.t 52, .c (.int .i64 100)],
           .val (some (50, false)) (some 54) (.un .not (.t 53)),
           .val none (some 55) (.pick (.t 50) (.c (.bool true)) (.t 54)),
           .val none (some 56) (.mv (.t 55)),
           .val (some (56, false)) (some 57) (.fa (.t 8) 9),
           .val (some (56, false)) (some 58) (.ld (.t 57) 5 true),
           .call (some (56, false)) (some 59) 30 [.t 58, .c (.int .i64 100)],
           .val (some (56, false)) (some 60) (.un .not (.t 59)),
           .val none (some 61) (.pick (.t 56) (.c (.bool true)) (.t 60))])
        (.cond (.t 61)
         (.seq (.region false [.val none (some 6) (.mv (.c (.int .i64 (-1))))])
         .ret)
         .skip))
       (.seq (.seq (.region false [.val none (some 9) (.mv (.c (.int .i64 0)))])
        (.block 2 (.loop [0, 1, 2, 7, 8, 9] [8]
          (.seq (.seq (.region false [.val none (some 62) (.mv (.t 9)),
              .val none (some 63) (.fa (.t 8) 14),
              .val none (some 64) (.ld (.t 63) 1 false),
              .val none (some 65) (.len (.t 64)),
              .val none (some 66) (.bin .lss (.t 62) (.t 65))])
           (.cond (.t 66)
            .skip
            (.exit 2)))
          (.seq (.block 3 (.seq (.region false [.val none (some 69) (.fa (.t 8) 14),
               .val none (some 70) (.ld (.t 69) 1 false),
               .val none (some 71) (.mv (.t 9)),
               .val none (some 72) (.ia (.t 70) (.t 71) 5),
               .val none (some 73) (.ld (.t 72) 5 true),
               .call none (some 74) 30 [.t 73, .c (.int .i64 100)],
               .val none (some 75) (.un .not (.t 74))])
            (.cond (.t 75)
             (.seq (.region false [.val none (some 6) (.mv (.c (.int .i64 (-1))))])
             .ret)
             .skip)))
          (.region false [.val none (some 67) (.mv (.t 9)),
            .val none (some 68) (.bin .add (.t 67) (.c (.int .i64 1))),
            .val none (some 9) (.mv (.t 68))]))))))
       (.seq (.seq (.region false [.val none (some 10) (.mv (.c (.int .i64 0)))])
        (.block 4 (.loop [0, 1, 2, 7, 8, 10] [8]
          (.seq (.seq (.region false [.val none (some 76) (.mv (.t 10)),
              .val none (some 77) (.fa (.t 8) 15),
              .val none (some 78) (.ld (.t 77) 1 false),
              .val none (some 79) (.len (.t 78)),
              .val none (some 80) (.bin .lss (.t 76) (.t 79))])
           (.cond (.t 80)
            .skip
            (.exit 4)))
          (.seq (.block 5 (.seq (.region false [.val none (some 83) (.fa (.t 8) 15),
               .val none (some 84) (.ld (.t 83) 1 false),
               .val none (some 85) (.mv (.t 10)),
               .val none (some 86) (.ia (.t 84) (.t 85) 6),
               .val none (some 87) (.fa (.t 86) 1),
               .val none (some 88) (.ld (.t 87) 5 true),
               .call none (some 89) 30 [.t 88, .c (.int .i64 100)],
               .val none (some 90) (.un .not (.t 89))])
            (.cond (.t 90)
             (.seq (.region false [.val none (some 6) (.mv (.c (.int .i64 (-1))))])
             .ret)
             .skip)))
          (.region false [.val none (some 81) (.mv (.t 10)),
            .val none (some 82) (.bin .add (.t 81) (.c (.int .i64 1))),
            .val none (some 10) (.mv (.t 82))]))))))
       (.seq (.region false [.val none (some 91) (.fa (.t 8) 16),
          .val none (some 92) (.ld (.t 91) 1 false),
          .val none (some 93) (.mv (.t 1)),
          .val none (some 94) (.bin .sub (.t 93) (.c (.int .i64 1))),
          .val none (some 95) (.mv (.t 2)),
          .val none (some 96) (.bin .sub (.t 95) (.c (.int .i64 1))),
          .call none (some 97) 18 [.t 92, .t 94, .t 96],
          .val none (some 1) (.mv (.t 97))])
       (.seq (.seq (.region false [.val none (some 98) (.mv (.t 1)),
           .val none (some 99) (.bin .geq (.t 98) (.c (.int .i64 0)))])
        (.cond (.t 99)
         (.region false [.val none (some 100) (.fa (.t 8) 17),
           .val none (some 101) (.ld (.t 100) 1 false),
           .val none (some 102) (.mv (.t 1)),
           .val none (some 103) (.mv (.t 2)),
           .val none (some 104) (.bin .sub (.t 103) (.c (.int .i64 1))),
           .call none (some 105) 18 [.t 101, .t 102, .t 104],
           .val none (some 1) (.mv (.t 105))])
         .skip))
       (.seq (.seq (.region false [.val none (some 11) (.mv (.c (.int .i64 0)))])
        (.block 6 (.loop [0, 1, 2, 7, 8, 11] [8]
          (.seq (.seq (.region false [.val none (some 106) (.mv (.t 11)),
              .val none (some 107) (.fa (.t 8) 18),
              .val none (some 108) (.ld (.t 107) 1 false),
              .val none (some 109) (.len (.t 108)),
              .val none (some 110) (.bin .lss (.t 106) (.t 109)),
              .val none (some 111) (.mv (.t 110)),
              .val (some (111, true)) (some 112) (.mv (.t 1)),
              .val (some (111, true)) (some 113) (.bin .geq (.t 112) (.c (.int .i64 0))),
              .val none (some 114) (.pick (.t 111) (.t 113) (.c (.bool false)))])
           (.cond (.t 114)
            .skip
            (.exit 6)))
          (.seq (.block 7 (.seq (.seq (.region false [.val none (some 117) (.fa (.t 8) 18),
                .val none (some 118) (.ld (.t 117) 1 false),
                .val none (some 119) (.mv (.t 11)),
                .val none (some 120) (.ia (.t 118) (.t 119) 2),
                .val none (some 121) (.fa (.t 120) 0),
                .val none (some 122) (.ld (.t 121) 1 false),
                .val none (some 123) (.len (.t 122)),
                .val none (some 124) (.bin .gtr (.t 123) (.c (.int .i64 300)))])
             (.cond (.t 124)
              (.seq (.region false [.val none (some 6) (.mv (.c (.int .i64 (-1))))])
              .ret)
              .skip))
            (.region false [.val none (some 125) (.fa (.t 8) 18),
              .val none (some 126) (.ld (.t 125) 1 false),
              .val none (some 127) (.mv (.t 11)),
              .val none (some 128) (.ia (.t 126) (.t 127) 2),
              .val none (some 129) (.fa (.t 128) 1),
              .val none (some 130) (.ld (.t 129) 1 false),
              .val none (some 131) (.mv (.t 1)),
              .val none (some 132) (.mv (.t 2)),
              .val none (some 133) (.bin .sub (.t 132) (.c (.int .i64 1))),
              .call none (some 134) 18 [.t 130, .t 131, .t 133],
              .val none (some 1) (.mv (.t 134))])))
          (.region false [.val none (some 115) (.mv (.t 11)),
            .val none (some 116) (.bin .add (.t 115) (.c (.int .i64 1))),
            .val none (some 11) (.mv (.t 116))]))))))
       (.seq (.region false [.val none (some 135) (.mv (.t 1)),
          .val none (some 136) (.bin .lss (.t 135) (.c (.int .i64 0)))])
       (.cond (.t 136)
        (.seq (.region false [.val none (some 6) (.mv (.c (.int .i64 (-1))))])
        .ret)
        .skip))))))))))
     (.region false [.val none (some 24) (.mv (.t 7)),
       .val none (some 25) (.bin .add (.t 24) (.c (.int .i64 1))),
       .val none (some 7) (.mv (.t 25))]))))))
  (.seq (.region false [.val none (some 137) (.mv (.t 1)),
     .val none (some 6) (.mv (.t 137))])
  .ret)))) }

/-- (*ladderback/graph.builder).add -/
def a19 : AFn := { ntmps := 25, results := [.tmp 6], body :=
  (.seq (.region false [.box none 4 (.t 1) 19,
     .val none (some 6) (.mv (.c (.int .i64 0)))])
  (.seq (.region true [.val none (some 7) (.mv (.t 0)),
     .val none (some 8) (.mv (.t 0)),
     .val none (some 9) (.nc (.t 8)),
     .val none (some 10) (.fa (.t 9) 0),
     .val none (some 11) (.ld (.t 10) 1 false),
     .val none (some 12) (.ld (.t 4) 19 true),
     .val none (some 13) (.mv (.t 2)),
     .val none (some 14) (.build [.int .i64 0, .int .i64 0, .int .i64 0, .int .i64 0, .int .i64 0, .int .i64 0, .int .i64 0, .int .i64 0, .nsl, .int .i64 0, .int .i64 0, .int .i64 0, .int .i64 0, .nsl, .nsl, .nsl, .nsl, .nsl, .nsl, .nsl] [(0, 19, .t 12), (19, 1, .t 13)]),
     .bsl none 15 20 1 [.int .i64 0, .int .i64 0, .int .i64 0, .int .i64 0, .int .i64 0, .int .i64 0, .int .i64 0, .int .i64 0, .nsl, .int .i64 0, .int .i64 0, .int .i64 0, .int .i64 0, .nsl, .nsl, .nsl, .nsl, .nsl, .nsl, .nsl] [(0, 20, .t 14)],
     .app none 16 (.t 11) (.t 15) 20 288,
     .val none (some 17) (.nc (.t 7)),
     .val none (some 18) (.fa (.t 17) 0),
     .st none (.t 18) (.t 16) 1])
  (.seq (.region false [.val none (some 19) (.mv (.t 0)),
     .val none (some 20) (.nc (.t 19)),
     .val none (some 21) (.fa (.t 20) 0),
     .val none (some 22) (.ld (.t 21) 1 false),
     .val none (some 23) (.len (.t 22)),
     .val none (some 24) (.bin .sub (.t 23) (.c (.int .i64 1))),
     .val none (some 6) (.mv (.t 24))])
  .ret))) }

/-- (*ladderback/graph.builder).list -/
def a20 : AFn := { ntmps := 25, results := [.tmp 6], body :=
  (.seq (.region false [.box none 5 (.t 2) 3,
     .val none (some 6) (.mv (.c (.int .i64 0)))])
  (.seq (.seq (.region false [.val none (some 8) (.mv (.t 1)),
      .val none (some 9) (.len (.t 8)),
      .val none (some 10) (.bin .sub (.t 9) (.c (.int .i64 1))),
      .val none (some 7) (.mv (.t 10))])
   (.block 0 (.loop [0, 1, 5, 7] [5]
     (.seq (.seq (.region false [.val none (some 11) (.mv (.t 7)),
         .val none (some 12) (.bin .geq (.t 11) (.c (.int .i64 0)))])
      (.cond (.t 12)
       .skip
       (.exit 0)))
     (.seq (.block 1 (.region true [.val none (some 15) (.mv (.t 0)),
         .val none (some 16) (.mv (.t 1)),
         .val none (some 17) (.mv (.t 7)),
         .val none (some 18) (.ia (.t 16) (.t 17) 19),
         .val none (some 19) (.ld (.t 18) 19 true),
         .val none (some 20) (.ld (.t 5) 3 true),
         .call none (some 21) 31 [.t 15, .t 19, .t 20],
         .val none (some 22) (.fa (.t 5) 0),
         .st none (.t 22) (.t 21) 1]))
     (.region false [.val none (some 13) (.mv (.t 7)),
       .val none (some 14) (.bin .sub (.t 13) (.c (.int .i64 1))),
       .val none (some 7) (.mv (.t 14))]))))))
  (.seq (.region false [.val none (some 23) (.fa (.t 5) 0),
     .val none (some 24) (.ld (.t 23) 1 false),
     .val none (some 6) (.mv (.t 24))])
  .ret))) }

/-- ladderback/bits.New -/
def a21 : AFn := { ntmps := 12, results := [.cell 2 2 true], body :=
  (.seq (.region false [.box none 2 (.c (.agg [.int .i64 0, .nsl])) 2])
  (.seq (.region false [.val none (some 3) (.mv (.t 0)),
     .val none (some 4) (.mn (.t 3) (.c (.int .i64 65536))),
     .val none (some 5) (.mx (.c (.int .i64 0)) (.t 4)),
     .val none (some 0) (.mv (.t 5))])
  (.seq (.region false [.val none (some 6) (.mv (.t 0)),
     .val none (some 7) (.mv (.t 0)),
     .val none (some 8) (.bin .add (.t 7) (.c (.int .i64 63))),
     .val none (some 9) (.bin .quo (.t 8) (.c (.int .i64 64))),
     .mks none 10 (.t 9) (.t 9) 1 8 [.int .u64 0],
     .val none (some 11) (.build [.int .i64 0, .nsl] [(0, 1, .t 6), (1, 1, .t 10)]),
     .st none (.t 2) (.t 11) 2])
  .ret))) }

/-- (ladderback/bits.Set).Has -/
def a22 : AFn := { ntmps := 26, results := [.tmp 4], body :=
  (.seq (.region false [.box none 2 (.t 0) 2,
     .val none (some 4) (.mv (.c (.bool false)))])
  (.seq (.region false [.val none (some 5) (.mv (.t 1)),
     .val none (some 6) (.bin .geq (.t 5) (.c (.int .i64 0))),
     .val none (some 7) (.mv (.t 6)),
     .val (some (7, true)) (some 8) (.mv (.t 1)),
     .val (some (7, true)) (some 9) (.fa (.t 2) 0),
     .val (some (7, true)) (some 10) (.ld (.t 9) 1 false),
     .val (some (7, true)) (some 11) (.bin .lss (.t 8) (.t 10)),
     .val none (some 12) (.pick (.t 7) (.t 11) (.c (.bool false))),
     .val none (some 13) (.mv (.t 12)),
     .val (some (13, true)) (some 14) (.fa (.t 2) 1),
     .val (some (13, true)) (some 15) (.ld (.t 14) 1 false),
     .val (some (13, true)) (some 16) (.mv (.t 1)),
     .val (some (13, true)) (some 17) (.bin .quo (.t 16) (.c (.int .i64 64))),
     .val (some (13, true)) (some 18) (.ia (.t 15) (.t 17) 1),
     .val (some (13, true)) (some 19) (.ld (.t 18) 1 false),
     .val (some (13, true)) (some 20) (.mv (.t 1)),
     .val (some (13, true)) (some 21) (.bin .rem (.t 20) (.c (.int .i64 64))),
     .val (some (13, true)) (some 22) (.bin .shr (.t 19) (.t 21)),
     .val (some (13, true)) (some 23) (.bin .and (.t 22) (.c (.int .u64 1))),
     .val (some (13, true)) (some 24) (.bin .eql (.t 23) (.c (.int .u64 1))),
     .val none (some 25) (.pick (.t 13) (.t 24) (.c (.bool false))),
     .val none (some 4) (.mv (.t 25))])
  .ret)) }

/-- (ladderback/bits.Set).With -/
def a23 : AFn := { ntmps := 31, results := [.cell 4 2 true], body :=
  (.seq (.region false [.box none 2 (.t 0) 2,
     .box none 4 (.c (.agg [.int .i64 0, .nsl])) 2])
  (.seq (.seq (.region false [.val none (some 6) (.mv (.t 1)),
      .val none (some 7) (.bin .lss (.t 6) (.c (.int .i64 0))),
      .val none (some 8) (.mv (.t 7)),
      .val (some (8, false)) (some 9) (.mv (.t 1)),
      .val (some (8, false)) (some 10) (.fa (.t 2) 0),
      .val (some (8, false)) (some 11) (.ld (.t 10) 1 false),
      .val (some (8, false)) (some 12) (.bin .geq (.t 9) (.t 11)),
      .val none (some 13) (.pick (.t 8) (.c (.bool true)) (.t 12))])
   (.cond (.t 13)
    (.seq (.region false [.val none (some 14) (.ld (.t 2) 2 true),
       .st none (.t 4) (.t 14) 2])
    .ret)
    .skip))
  (.seq (.region false [.val none (some 15) (.ld (.t 2) 2 true),
     .val none (some 16) (.fa (.t 2) 0),
     .val none (some 17) (.ld (.t 16) 1 false),
     .call none (some 18) 32 [.t 15, .t 17],
     .box none 5 (.c (.agg [.int .i64 0, .nsl])) 2,
     .st none (.t 5) (.t 18) 2])
  (.seq (.region true [.val none (some 19) (.fa (.t 5) 1),
     .val none (some 20) (.ld (.t 19) 1 false),
     .val none (some 21) (.mv (.t 1)),
     .val none (some 22) (.bin .quo (.t 21) (.c (.int .i64 64))),
     .val none (some 23) (.ia (.t 20) (.t 22) 1),
     .val none (some 24) (.ld (.t 23) 1 false),
     .val none (some 25) (.mv (.t 1)),
     .val none (some 26) (.bin .rem (.t 25) (.c (.int .i64 64))),
     .val none (some 27) (.bin .shl (.c (.int .u64 1)) (.t 26)),
     .val none (some 28) (.bin .or (.t 24) (.t 27)),
     .val none (some 29) (.ia (.t 20) (.t 22) 1),
     .st none (.t 29) (.t 28) 1])
  (.seq (.region false [.val none (some 30) (.ld (.t 5) 2 true),
     .st none (.t 4) (.t 30) 2])
  .ret))))) }

/-- ladderback/stmt.like[ladderback/api.Stmt] -/
def a24 : AFn := { ntmps := 30, results := [.tmp 6], body :=
  (.seq (.region false [.val none (some 6) (.mv (.c (.bool false)))])
  (.seq (.seq (.region false [.val none (some 8) (.mv (.t 0)),
      .val none (some 9) (.len (.t 8)),
      .val none (some 10) (.mv (.t 1)),
      .val none (some 11) (.len (.t 10)),
      .val none (some 12) (.bin .neq (.t 9) (.t 11))])
   (.cond (.t 12)
    (.seq (.region false [.val none (some 6) (.mv (.c (.bool false)))])
    .ret)
    .skip))
  (.seq (.seq (.region false [.val none (some 13) (.mv (.t 0)),
      .val none (some 14) (.len (.t 13)),
      .val none (some 15) (.mv (.c (.int .i64 0)))])
   (.block 0 (.loop [0, 1, 2, 14, 15] []
     (.seq (.region false [.val none (some 16) (.bin .lss (.t 15) (.t 14))])
     (.seq (.cond (.t 16)
       .skip
       (.exit 0))
     (.seq (.block 1 (.seq (.region false [.val none (some 17) (.mv (.t 15)),
          .val none (some 7) (.mv (.t 17))])
       (.seq (.region true [.val none (some 18) (.mv (.t 2)),
          .val none (some 19) (.mv (.t 0)),
          .val none (some 20) (.mv (.t 7)),
          .val none (some 21) (.ia (.t 19) (.t 20) 19),
          .val none (some 22) (.ld (.t 21) 19 true),
          .val none (some 23) (.mv (.t 1)),
          .val none (some 24) (.mv (.t 7)),
          .val none (some 25) (.ia (.t 23) (.t 24) 19),
          .val none (some 26) (.ld (.t 25) 19 true),
          .callv none (some 27) (.t 18) [.t 22, .t 26],
          .val none (some 28) (.un .not (.t 27))])
       (.cond (.t 28)
        (.seq (.region false [.val none (some 6) (.mv (.c (.bool false)))])
        .ret)
        .skip))))
     (.region false [.val none (some 29) (.bin .add (.t 15) (.c (.int .i64 1))),
       .val none (some 15) (.mv (.t 29))])))))))
  (.seq (.region false [.val none (some 6) (.mv (.c (.bool true)))])
  .ret)))) }

/-- ladderback/stmt.same -/
def a25 : AFn := { ntmps := 86, results := [.tmp 4], body :=
  (.seq (.region false [.box none 2 (.t 0) 19,
     .box none 3 (.t 1) 19,
     .val none (some 4) (.mv (.c (.bool false)))])
  (.seq (.seq (.region false [.val none (some 8) (.fa (.t 2) 0),
      .val none (some 9) (.ld (.t 8) 1 false),
      .val none (some 10) (.fa (.t 3) 0),
      .val none (some 11) (.ld (.t 10) 1 false),
      .val none (some 12) (.bin .neq (.t 9) (.t 11)),
      .val none (some 13) (.mv (.t 12)),
      .val (some (13, false)) (some 14) (.fa (.t 2) 1),
      .val (some (13, false)) (some 15) (.ld (.t 14) 1 false),
      .val (some (13, false)) (some 16) (.fa (.t 3) 1),
      .val (some (13, false)) (some 17) (.ld (.t 16) 1 false),
      .val (some (13, false)) (some 18) (.bin .neq (.t 15) (.t 17)),
      .val none (some 19) (.pick (.t 13) (.c (.bool true)) (.t 18)),
      .val none (some 20) (.mv (.t 19)),
      .val (some (20, false)) (some 21) (.fa (.t 2) 2),
      .val (some (20, false)) (some 22) (.ld (.t 21) 1 false),
      .val (some (20, false)) (some 23) (.fa (.t 3) 2),
      .val (some (20, false)) (some 24) (.ld (.t 23) 1 false),
      .val (some (20, false)) (some 25) (.bin .neq (.t 22) (.t 24)),
      .val none (some 26) (.pick (.t 20) (.c (.bool true)) (.t 25)),
      .val none (some 27) (.mv (.t 26)),
      .val (some (27, false)) (some 28) (.fa (.t 2) 3),
      .val (some (27, false)) (some 29) (.ld (.t 28) 1 false),
      .val (some (27, false)) (some 30) (.fa (.t 3) 3),
      .val (some (27, false)) (some 31) (.ld (.t 30) 1 false),
      .val (some (27, false)) (some 32) (.bin .neq (.t 29) (.t 31)),
      .val none (some 33) (.pick (.t 27) (.c (.bool true)) (.t 32)),
      .val none (some 34) (.mv (.t 33)),
      .val (some (34, false)) (some 35) (.fa (.t 2) 4),
      .val (some (34, false)) (some 36) (.ld (.t 35) 5 true),
      .val (some (34, false)) (some 37) (.fa (.t 3) 4),
      .val (some (34, false)) (some 38) (.ld (.t 37) 5 true),
      .call (some (34, false)) (some 39) 33 [.t 36, .t 38],
      .val (some (34, false)) (some 40) (.un .not (.t 39)),
      .val none (some 41) (.pick (.t 34) (.c (.bool true)) (.t 40)),
      .val none (some 42) (.mv (.t 41)),
      .val (some (42, false)) (some 43) (.fa (.t 2) 9),
      .val (some (42, false)) (some 44) (.ld (.t 43) 5 true),
      .val (some (42, false)) (some 45) (.fa (.t 3) 9),
      .val (some (42, false)) (some 46) (.ld (.t 45) 5 true),
      .call (some (42, false)) (some 47) 33 [.t 44, .t 46],
      .val (some (42, false)) (some 48) (.un .not (.t 47)),
      .val none (some 49) (.pick (.t 42) (.c (.bool true)) (.t 48))])
   (.cond (.t 49)
    (.seq (.region false [.val none (some 4) (.mv (.c (.bool false)))])
    .ret)
    .skip))
  (.seq (.region false [.val none (some 5) (.mv (.c (.fn 34 [])))])
  (.seq (.region false [.box none 6 (.c (.agg [.undef])) 1,
     .st none (.t 6) (.c (.fn 35 [])) 1])
  (.seq (.region false [.val none (some 50) (.mkf 36 [.t 6]),
     .val none (some 7) (.mv (.t 50))])
  (.seq (.region false [.val none (some 51) (.fa (.t 2) 14),
     .val none (some 52) (.ld (.t 51) 1 false),
     .val none (some 53) (.fa (.t 3) 14),
     .val none (some 54) (.ld (.t 53) 1 false),
     .call none (some 55) 38 [.t 52, .t 54, .c (.fn 33 [])],
     .val none (some 56) (.mv (.t 55)),
     .val (some (56, true)) (some 57) (.fa (.t 2) 15),
     .val (some (56, true)) (some 58) (.ld (.t 57) 1 false),
     .val (some (56, true)) (some 59) (.fa (.t 3) 15),
     .val (some (56, true)) (some 60) (.ld (.t 59) 1 false),
     .val (some (56, true)) (some 61) (.mv (.t 5)),
     .call (some (56, true)) (some 62) 39 [.t 58, .t 60, .t 61],
     .val none (some 63) (.pick (.t 56) (.t 62) (.c (.bool false))),
     .val none (some 64) (.mv (.t 63)),
     .val (some (64, true)) (some 65) (.fa (.t 2) 16),
     .val (some (64, true)) (some 66) (.ld (.t 65) 1 false),
     .val (some (64, true)) (some 67) (.fa (.t 3) 16),
     .val (some (64, true)) (some 68) (.ld (.t 67) 1 false),
     .call (some (64, true)) (some 69) 13 [.t 66, .t 68],
     .val none (some 70) (.pick (.t 64) (.t 69) (.c (.bool false))),
     .val none (some 71) (.mv (.t 70)),
     .val (some (71, true)) (some 72) (.fa (.t 2) 17),
     .val (some (71, true)) (some 73) (.ld (.t 72) 1 false),
     .val (some (71, true)) (some 74) (.fa (.t 3) 17),
     .val (some (71, true)) (some 75) (.ld (.t 74) 1 false),
     .call (some (71, true)) (some 76) 13 [.t 73, .t 75],
     .val none (some 77) (.pick (.t 71) (.t 76) (.c (.bool false))),
     .val none (some 78) (.mv (.t 77)),
     .val (some (78, true)) (some 79) (.fa (.t 2) 18),
     .val (some (78, true)) (some 80) (.ld (.t 79) 1 false),
     .val (some (78, true)) (some 81) (.fa (.t 3) 18),
     .val (some (78, true)) (some 82) (.ld (.t 81) 1 false),
     .val (some (78, true)) (some 83) (.mv (.t 7)),
     .call (some (78, true)) (some 84) 40 [.t 80, .t 82, .t 83],
     .val none (some 85) (.pick (.t 78) (.t 84) (.c (.bool false))),
     .val none (some 4) (.mv (.t 85))])
  .ret)))))) }

/-- ladderback/ladderbackref26.Same -/
def a26 : AFn := { ntmps := 60, results := [.tmp 4], body :=
  (.seq (.region false [.box none 2 (.t 0) 5,
     .box none 3 (.t 1) 5,
     .val none (some 4) (.mv (.c (.bool false)))])
  (.seq (.seq (.region false [.val none (some 6) (.fa (.t 2) 0),
      .val none (some 7) (.ld (.t 6) 1 false),
      .val none (some 8) (.fa (.t 3) 0),
      .val none (some 9) (.ld (.t 8) 1 false),
      .val none (some 10) (.bin .neq (.t 7) (.t 9)),
      .val none (some 11) (.mv (.t 10)),
      .val (some (11, false)) (some 12) (.fa (.t 2) 1),
      .val (some (11, false)) (some 13) (.ld (.t 12) 1 false),
      .val (some (11, false)) (some 14) (.fa (.t 3) 1),
      .val (some (11, false)) (some 15) (.ld (.t 14) 1 false),
      .val (some (11, false)) (some 16) (.bin .neq (.t 13) (.t 15)),
      .val none (some 17) (.pick (.t 11) (.c (.bool true)) (.t 16)),
      .val none (some 18) (.mv (.t 17)),
      .val (some (18, false)) (some 19) (.fa (.t 2) 2),
      .val (some (18, false)) (some 20) (.ld (.t 19) 1 false),
      .val (some (18, false)) (some 21) (.fa (.t 3) 2),
      .val (some (18, false)) (some 22) (.ld (.t 21) 1 false),
      .val (some (18, false)) (some 23) (.bin .neq (.t 20) (.t 22)),
      .val none (some 24) (.pick (.t 18) (.c (.bool true)) (.t 23)),
      .val none (some 25) (.mv (.t 24)),
      .val (some (25, false)) (some 26) (.fa (.t 2) 3),
      .val (some (25, false)) (some 27) (.ld (.t 26) 1 false),
      .val (some (25, false)) (some 28) (.fa (.t 3) 3),
      .val (some (25, false)) (some 29) (.ld (.t 28) 1 false),
      .val (some (25, false)) (some 30) (.bin .neq (.t 27) (.t 29)),
      .val none (some 31) (.pick (.t 25) (.c (.bool true)) (.t 30)),
      .val none (some 32) (.mv (.t 31)),
      .val (some (32, false)) (some 33) (.fa (.t 2) 4),
      .val (some (32, false)) (some 34) (.ld (.t 33) 1 false),
      .val (some (32, false)) (some 35) (.len (.t 34)),
      .val (some (32, false)) (some 36) (.fa (.t 3) 4),
      .val (some (32, false)) (some 37) (.ld (.t 36) 1 false),
      .val (some (32, false)) (some 38) (.len (.t 37)),
      .val (some (32, false)) (some 39) (.bin .neq (.t 35) (.t 38)),
      .val none (some 40) (.pick (.t 32) (.c (.bool true)) (.t 39))])
   (.cond (.t 40)
    (.seq (.region false [.val none (some 4) (.mv (.c (.bool false)))])
    .ret)
    .skip))
  (.seq (.seq (.region false [.val none (some 5) (.mv (.c (.int .i64 0)))])
   (.block 0 (.loop [2, 3, 5] [2, 3]
     (.seq (.seq (.region false [.val none (some 41) (.mv (.t 5)),
         .val none (some 42) (.fa (.t 2) 4),
         .val none (some 43) (.ld (.t 42) 1 false),
         .val none (some 44) (.len (.t 43)),
         .val none (some 45) (.bin .lss (.t 41) (.t 44))])
      (.cond (.t 45)
       .skip
       (.exit 0)))
     (.seq (.block 1 (.seq (.region true [.val none (some 48) (.fa (.t 2) 4),
          .val none (some 49) (.ld (.t 48) 1 false),
          .val none (some 50) (.mv (.t 5)),
          .val none (some 51) (.ia (.t 49) (.t 50) 5),
          .val none (some 52) (.ld (.t 51) 5 true),
          .val none (some 53) (.fa (.t 3) 4),
          .val none (some 54) (.ld (.t 53) 1 false),
          .val none (some 55) (.mv (.t 5)),
          .val none (some 56) (.ia (.t 54) (.t 55) 5),
          .val none (some 57) (.ld (.t 56) 5 true),
          .call none (some 58) 26 [.t 52, .t 57],
          .val none (some 59) (.un .not (.t 58))])
       (.cond (.t 59)
        (.seq (.region false [.val none (some 4) (.mv (.c (.bool false)))])
        .ret)
        .skip)))
     (.region false [.val none (some 46) (.mv (.t 5)),
       .val none (some 47) (.bin .add (.t 46) (.c (.int .i64 1))),
       .val none (some 5) (.mv (.t 47))]))))))
  (.seq (.region false [.val none (some 4) (.mv (.c (.bool true)))])
  .ret)))) }

/-- ladderback/ladderbackref28.Exprs -/
def a27 : AFn := { ntmps := 27, results := [.tmp 4], body :=
  (.seq (.region false [.val none (some 4) (.mv (.c (.bool false)))])
  (.seq (.seq (.region false [.val none (some 6) (.mv (.t 0)),
      .val none (some 7) (.len (.t 6)),
      .val none (some 8) (.mv (.t 1)),
      .val none (some 9) (.len (.t 8)),
      .val none (some 10) (.bin .neq (.t 7) (.t 9))])
   (.cond (.t 10)
    (.seq (.region false [.val none (some 4) (.mv (.c (.bool false)))])
    .ret)
    .skip))
  (.seq (.seq (.region false [.val none (some 5) (.mv (.c (.int .i64 0)))])
   (.block 0 (.loop [0, 1, 5] []
     (.seq (.seq (.region false [.val none (some 11) (.mv (.t 5)),
         .val none (some 12) (.mv (.t 0)),
         .val none (some 13) (.len (.t 12)),
         .val none (some 14) (.bin .lss (.t 11) (.t 13))])
      (.cond (.t 14)
       .skip
       (.exit 0)))
     (.seq (.block 1 (.seq (.region true [.val none (some 17) (.mv (.t 0)),
          .val none (some 18) (.mv (.t 5)),
          .val none (some 19) (.ia (.t 17) (.t 18) 5),
          .val none (some 20) (.ld (.t 19) 5 true),
          .val none (some 21) (.mv (.t 1)),
          .val none (some 22) (.mv (.t 5)),
          .val none (some 23) (.ia (.t 21) (.t 22) 5),
          .val none (some 24) (.ld (.t 23) 5 true),
          .call none (some 25) 26 [.t 20, .t 24],
          .val none (some 26) (.un .not (.t 25))])
       (.cond (.t 26)
        (.seq (.region false [.val none (some 4) (.mv (.c (.bool false)))])
        .ret)
        .skip)))
     (.region false [.val none (some 15) (.mv (.t 5)),
       .val none (some 16) (.bin .add (.t 15) (.c (.int .i64 1))),
       .val none (some 5) (.mv (.t 16))]))))))
  (.seq (.region false [.val none (some 4) (.mv (.c (.bool true)))])
  .ret)))) }

/-- ladderback/ladderbackref15.Ints -/
def a28 : AFn := { ntmps := 26, results := [.tmp 4], body :=
  (.seq (.region false [.val none (some 4) (.mv (.c (.bool false)))])
  (.seq (.seq (.region false [.val none (some 6) (.mv (.t 0)),
      .val none (some 7) (.len (.t 6)),
      .val none (some 8) (.mv (.t 1)),
      .val none (some 9) (.len (.t 8)),
      .val none (some 10) (.bin .neq (.t 7) (.t 9))])
   (.cond (.t 10)
    (.seq (.region false [.val none (some 4) (.mv (.c (.bool false)))])
    .ret)
    .skip))
  (.seq (.seq (.region false [.val none (some 5) (.mv (.c (.int .i64 0)))])
   (.block 0 (.loop [0, 1, 5] []
     (.seq (.seq (.region false [.val none (some 11) (.mv (.t 5)),
         .val none (some 12) (.mv (.t 0)),
         .val none (some 13) (.len (.t 12)),
         .val none (some 14) (.bin .lss (.t 11) (.t 13))])
      (.cond (.t 14)
       .skip
       (.exit 0)))
     (.seq (.block 1 (.seq (.region true [.val none (some 17) (.mv (.t 0)),
          .val none (some 18) (.mv (.t 5)),
          .val none (some 19) (.ia (.t 17) (.t 18) 1),
          .val none (some 20) (.ld (.t 19) 1 false),
          .val none (some 21) (.mv (.t 1)),
          .val none (some 22) (.mv (.t 5)),
          .val none (some 23) (.ia (.t 21) (.t 22) 1),
          .val none (some 24) (.ld (.t 23) 1 false),
          .val none (some 25) (.bin .neq (.t 20) (.t 24))])
       (.cond (.t 25)
        (.seq (.region false [.val none (some 4) (.mv (.c (.bool false)))])
        .ret)
        .skip)))
     (.region false [.val none (some 15) (.mv (.t 5)),
       .val none (some 16) (.bin .add (.t 15) (.c (.int .i64 1))),
       .val none (some 5) (.mv (.t 16))]))))))
  (.seq (.region false [.val none (some 4) (.mv (.c (.bool true)))])
  .ret)))) }

/-- ladderback/ladderbackref28.Same -/
def a29 : AFn := { ntmps := 40, results := [.tmp 4], body :=
  (.seq (.region false [.val none (some 4) (.mv (.c (.bool false)))])
  (.seq (.seq (.region false [.val none (some 6) (.mv (.t 0)),
      .val none (some 7) (.len (.t 6)),
      .val none (some 8) (.mv (.t 1)),
      .val none (some 9) (.len (.t 8)),
      .val none (some 10) (.bin .neq (.t 7) (.t 9))])
   (.cond (.t 10)
    (.seq (.region false [.val none (some 4) (.mv (.c (.bool false)))])
    .ret)
    .skip))
  (.seq (.seq (.region false [.val none (some 5) (.mv (.c (.int .i64 0)))])
   (.block 0 (.loop [0, 1, 5] []
     (.seq (.seq (.region false [.val none (some 11) (.mv (.t 5)),
         .val none (some 12) (.mv (.t 0)),
         .val none (some 13) (.len (.t 12)),
         .val none (some 14) (.bin .lss (.t 11) (.t 13))])
      (.cond (.t 14)
       .skip
       (.exit 0)))
     (.seq (.block 1 (.seq (.region true [.val none (some 17) (.mv (.t 0)),
          .val none (some 18) (.mv (.t 5)),
          .val none (some 19) (.ia (.t 17) (.t 18) 19),
          .val none (some 20) (.fa (.t 19) 1),
          .val none (some 21) (.ld (.t 20) 1 false),
          .val none (some 22) (.mv (.t 1)),
          .val none (some 23) (.mv (.t 5)),
          .val none (some 24) (.ia (.t 22) (.t 23) 19),
          .val none (some 25) (.fa (.t 24) 1),
          .val none (some 26) (.ld (.t 25) 1 false),
          .val none (some 27) (.bin .neq (.t 21) (.t 26)),
          .val none (some 28) (.mv (.t 27)),
          .val (some (28, false)) (some 29) (.mv (.t 0)),
          .val (some (28, false)) (some 30) (.mv (.t 5)),
          .val (some (28, false)) (some 31) (.ia (.t 29) (.t 30) 19),
          .val (some (28, false)) (some 32) (.ld (.t 31) 19 true),
          .val (some (28, false)) (some 33) (.mv (.t 1)),
          .val (some (28, false)) (some 34) (.mv (.t 5)),
          .val (some (28, false)) (some 35) (.ia (.t 33) (.t 34) 19),
          .val (some (28, false)) (some 36) (.ld (.t 35) 19 true),
          .call (some (28, false)) (some 37) 16 [.t 32, .t 36],
          .val (some (28, false)) (some 38) (.un .not (.t 37)),
          .val none (some 39) (.pick (.t 28) (.c (.bool true)) (.t 38))])
       (.cond (.t 39)
        (.seq (.region false [.val none (some 4) (.mv (.c (.bool false)))])
        .ret)
        .skip)))
     (.region false [.val none (some 15) (.mv (.t 5)),
       .val none (some 16) (.bin .add (.t 15) (.c (.int .i64 1))),
       .val none (some 5) (.mv (.t 16))]))))))
  (.seq (.region false [.val none (some 4) (.mv (.c (.bool true)))])
  .ret)))) }

/-- ladderback/ladderbackref26.Few -/
def a30 : AFn := { ntmps := 9, results := [.tmp 4], body :=
  (.seq (.region false [.box none 2 (.t 0) 5,
     .val none (some 4) (.mv (.c (.bool false)))])
  (.seq (.region false [.val none (some 5) (.ld (.t 2) 5 true),
     .val none (some 6) (.mv (.t 1)),
     .call none (some 7) 41 [.t 5, .t 6, .c (.int .i64 40)],
     .val none (some 8) (.bin .geq (.t 7) (.c (.int .i64 0))),
     .val none (some 4) (.mv (.t 8))])
  .ret)) }

/-- (*ladderback/graph.builder).one -/
def a31 : AFn := { ntmps := 172, results := [.tmp 6], body :=
  (.seq (.region false [.box none 4 (.t 1) 19,
     .box none 5 (.t 2) 3,
     .val none (some 6) (.mv (.c (.int .i64 0)))])
  (.seq (.region false [.val none (some 16) (.fa (.t 4) 0),
     .val none (some 17) (.ld (.t 16) 1 false),
     .val none (some 18) (.fa (.t 4) 1),
     .val none (some 19) (.ld (.t 18) 1 false),
     .val none (some 20) (.fa (.t 4) 4),
     .val none (some 21) (.ld (.t 20) 5 true),
     .val none (some 22) (.build [.int .i64 0, .int .i64 0, .int .i64 0, .int .i64 0, .int .i64 0, .int .i64 0, .int .i64 0, .int .i64 0, .nsl, .int .i64 0, .int .i64 0, .int .i64 0, .int .i64 0, .nsl, .nsl, .nsl, .nsl, .nsl, .nsl] [(0, 1, .t 17), (1, 1, .t 19), (4, 5, .t 21)]),
     .box none 7 (.c (.agg [.int .i64 0, .int .i64 0, .int .i64 0, .int .i64 0, .int .i64 0, .int .i64 0, .int .i64 0, .int .i64 0, .nsl, .int .i64 0, .int .i64 0, .int .i64 0, .int .i64 0, .nsl, .nsl, .nsl, .nsl, .nsl, .nsl])) 19,
     .st none (.t 7) (.t 22) 19])
  (.seq (.region false [.val none (some 23) (.fa (.t 4) 1),
     .val none (some 24) (.ld (.t 23) 1 false),
     .val none (some 25) (.build [.int .i64 0, .int .i64 0, .int .i64 0, .int .i64 0, .int .i64 0, .int .i64 0, .int .i64 0, .int .i64 0, .nsl, .int .i64 0, .int .i64 0, .int .i64 0, .int .i64 0, .nsl, .nsl, .nsl, .nsl, .nsl, .nsl] [(0, 1, .c (.int .i64 0)), (1, 1, .t 24)]),
     .box none 8 (.c (.agg [.int .i64 0, .int .i64 0, .int .i64 0, .int .i64 0, .int .i64 0, .int .i64 0, .int .i64 0, .int .i64 0, .nsl, .int .i64 0, .int .i64 0, .int .i64 0, .int .i64 0, .nsl, .nsl, .nsl, .nsl, .nsl, .nsl])) 19,
     .st none (.t 8) (.t 25) 19])
  (.seq (.seq (.region false [.val none (some 26) (.fa (.t 4) 0),
      .val none (some 27) (.ld (.t 26) 1 false)])
   (.block 0 (.seq (.region false [.val none (some 29) (.bin .eql (.t 27) (.c (.int .i64 12))),
       .val none (some 28) (.mv (.t 29))])
    (.cond (.t 28)
     (.seq (.region false [.val none (some 30) (.mv (.t 0)),
        .val none (some 31) (.ld (.t 8) 19 true),
        .val none (some 32) (.fa (.t 5) 1),
        .val none (some 33) (.ld (.t 32) 1 false),
        .bsl none 34 1 1 [.int .i64 0] [(0, 1, .t 33)],
        .call none (some 35) 19 [.t 30, .t 31, .t 34],
        .val none (some 6) (.mv (.t 35))])
     .ret)
     (.seq (.region false [.val none (some 37) (.bin .eql (.t 27) (.c (.int .i64 13))),
        .val none (some 36) (.mv (.t 37))])
     (.cond (.t 36)
      (.seq (.region false [.val none (some 38) (.mv (.t 0)),
         .val none (some 39) (.ld (.t 8) 19 true),
         .val none (some 40) (.fa (.t 5) 2),
         .val none (some 41) (.ld (.t 40) 1 false),
         .bsl none 42 1 1 [.int .i64 0] [(0, 1, .t 41)],
         .call none (some 43) 19 [.t 38, .t 39, .t 42],
         .val none (some 6) (.mv (.t 43))])
      .ret)
      (.seq (.region false [.val none (some 45) (.bin .eql (.t 27) (.c (.int .i64 14))),
         .val none (some 44) (.mv (.t 45))])
      (.cond (.t 44)
       (.seq (.region false [.val none (some 46) (.mv (.t 0)),
          .val none (some 47) (.ld (.t 7) 19 true),
          .call none (some 48) 19 [.t 46, .t 47, .c (.nsl)],
          .val none (some 6) (.mv (.t 48))])
       .ret)
       (.seq (.region false [.val none (some 50) (.bin .eql (.t 27) (.c (.int .i64 7))),
          .val none (some 49) (.mv (.t 50))])
       (.cond (.t 49)
        (.seq (.region false [.val none (some 51) (.mv (.t 0)),
           .val none (some 52) (.fa (.t 4) 16),
           .val none (some 53) (.ld (.t 52) 1 false),
           .val none (some 54) (.ld (.t 5) 3 true),
           .call none (some 55) 20 [.t 51, .t 53, .t 54],
           .val none (some 9) (.mv (.t 55))])
        (.seq (.region true [.val none (some 56) (.mv (.t 0)),
           .val none (some 57) (.ldl (.t 7) 19 true),
           .val none (some 58) (.mv (.t 9)),
           .val none (some 59) (.mv (.t 0)),
           .val none (some 60) (.fa (.t 4) 17),
           .val none (some 61) (.ld (.t 60) 1 false),
           .val none (some 62) (.ld (.t 5) 3 true),
           .call none (some 63) 20 [.t 59, .t 61, .t 62],
           .bsl none 64 1 2 [.int .i64 0] [(0, 1, .t 58), (1, 1, .t 63)],
           .call none (some 65) 19 [.t 56, .t 57, .t 64],
           .val none (some 6) (.mv (.t 65))])
        .ret))
        (.seq (.region false [.val none (some 67) (.bin .eql (.t 27) (.c (.int .i64 11))),
           .val none (some 66) (.mv (.t 67))])
        (.cond (.t 66)
         (.seq (.region false [.val none (some 68) (.mv (.t 0)),
            .val none (some 69) (.ld (.t 4) 19 true),
            .val none (some 70) (.ld (.t 7) 19 true),
            .val none (some 71) (.ld (.t 5) 3 true),
            .call none (some 72) 42 [.t 68, .t 69, .t 70, .t 71],
            .val none (some 6) (.mv (.t 72))])
         .ret)
         (.seq (.region false [.val none (some 74) (.bin .eql (.t 27) (.c (.int .i64 8))),
            .val none (some 73) (.mv (.t 74))])
         (.cond (.t 73)
          (.seq (.region false [.val none (some 75) (.fa (.t 7) 0),
             .st none (.t 75) (.c (.int .i64 7)) 1])
          (.seq (.region false [.val none (some 76) (.mv (.t 0)),
             .val none (some 77) (.ld (.t 7) 19 true),
             .val none (some 78) (.fa (.t 5) 0),
             .val none (some 79) (.ld (.t 78) 1 false),
             .bsl none 80 1 2 [.int .i64 0] [(0, 1, .c (.int .i64 0)), (1, 1, .t 79)],
             .call none (some 81) 19 [.t 76, .t 77, .t 80],
             .val none (some 10) (.mv (.t 81))])
          (.seq (.region false [.val none (some 82) (.mv (.t 0)),
             .val none (some 83) (.fa (.t 4) 16),
             .val none (some 84) (.ld (.t 83) 1 false),
             .val none (some 85) (.mv (.t 10)),
             .val none (some 86) (.fa (.t 5) 0),
             .val none (some 87) (.ld (.t 86) 1 false),
             .val none (some 88) (.mv (.t 10)),
             .val none (some 89) (.build [.int .i64 0, .int .i64 0, .int .i64 0] [(0, 1, .t 85), (1, 1, .t 87), (2, 1, .t 88)]),
             .call none (some 90) 20 [.t 82, .t 84, .t 89],
             .val none (some 11) (.mv (.t 90))])
          (.seq (.region false [.val none (some 91) (.mv (.t 0)),
             .val none (some 92) (.nc (.t 91)),
             .val none (some 93) (.fa (.t 92) 0),
             .val none (some 94) (.ld (.t 93) 1 false),
             .val none (some 95) (.mv (.t 10)),
             .val none (some 96) (.ia (.t 94) (.t 95) 20),
             .val none (some 97) (.fa (.t 96) 19),
             .val none (some 98) (.ld (.t 97) 1 false),
             .val none (some 99) (.mv (.t 11)),
             .val none (some 100) (.ia (.t 98) (.c (.int .i64 0)) 1),
             .st none (.t 100) (.t 99) 1])
          (.seq (.region false [.val none (some 101) (.mv (.t 10)),
             .val none (some 6) (.mv (.t 101))])
          .ret)))))
          (.seq (.region false [.val none (some 103) (.bin .eql (.t 27) (.c (.int .i64 9))),
             .val none (some 102) (.mv (.t 103))])
          (.cond (.t 102)
           (.seq (.region false [.val none (some 104) (.mv (.t 0)),
              .val none (some 105) (.build [.int .i64 0, .int .i64 0, .int .i64 0, .int .i64 0, .int .i64 0, .int .i64 0, .int .i64 0, .int .i64 0, .nsl, .int .i64 0, .int .i64 0, .int .i64 0, .int .i64 0, .nsl, .nsl, .nsl, .nsl, .nsl, .nsl] [(0, 1, .c (.int .i64 0))]),
              .bsl none 106 1 1 [.int .i64 0] [(0, 1, .c (.int .i64 0))],
              .call none (some 107) 19 [.t 104, .t 105, .t 106],
              .val none (some 12) (.mv (.t 107))])
           (.seq (.region false [.val none (some 108) (.mv (.t 0)),
              .val none (some 109) (.fa (.t 4) 16),
              .val none (some 110) (.ld (.t 109) 1 false),
              .val none (some 111) (.mv (.t 12)),
              .val none (some 112) (.fa (.t 5) 0),
              .val none (some 113) (.ld (.t 112) 1 false),
              .val none (some 114) (.mv (.t 12)),
              .val none (some 115) (.build [.int .i64 0, .int .i64 0, .int .i64 0] [(0, 1, .t 111), (1, 1, .t 113), (2, 1, .t 114)]),
              .call none (some 116) 20 [.t 108, .t 110, .t 115],
              .val none (some 13) (.mv (.t 116))])
           (.seq (.region false [.val none (some 117) (.mv (.t 0)),
              .val none (some 118) (.nc (.t 117)),
              .val none (some 119) (.fa (.t 118) 0),
              .val none (some 120) (.ld (.t 119) 1 false),
              .val none (some 121) (.mv (.t 12)),
              .val none (some 122) (.ia (.t 120) (.t 121) 20),
              .val none (some 123) (.fa (.t 122) 19),
              .val none (some 124) (.ld (.t 123) 1 false),
              .val none (some 125) (.mv (.t 13)),
              .val none (some 126) (.ia (.t 124) (.c (.int .i64 0)) 1),
              .st none (.t 126) (.t 125) 1])
           (.seq (.region false [.val none (some 127) (.mv (.t 12)),
              .val none (some 6) (.mv (.t 127))])
           .ret))))
           (.seq (.region false [.val none (some 129) (.bin .eql (.t 27) (.c (.int .i64 10))),
              .val none (some 128) (.mv (.t 129))])
           (.cond (.t 128)
            (.seq (.region false [.val none (some 130) (.fa (.t 7) 0),
               .st none (.t 130) (.c (.int .i64 7)) 1])
            (.seq (.region false [.val none (some 131) (.mv (.t 0)),
               .val none (some 132) (.ld (.t 7) 19 true),
               .val none (some 133) (.fa (.t 5) 0),
               .val none (some 134) (.ld (.t 133) 1 false),
               .bsl none 135 1 2 [.int .i64 0] [(0, 1, .t 134), (1, 1, .c (.int .i64 0))],
               .call none (some 136) 19 [.t 131, .t 132, .t 135],
               .val none (some 14) (.mv (.t 136))])
            (.seq (.region false [.val none (some 137) (.mv (.t 0)),
               .val none (some 138) (.fa (.t 4) 16),
               .val none (some 139) (.ld (.t 138) 1 false),
               .val none (some 140) (.mv (.t 14)),
               .val none (some 141) (.fa (.t 5) 0),
               .val none (some 142) (.ld (.t 141) 1 false),
               .val none (some 143) (.mv (.t 14)),
               .val none (some 144) (.build [.int .i64 0, .int .i64 0, .int .i64 0] [(0, 1, .t 140), (1, 1, .t 142), (2, 1, .t 143)]),
               .call none (some 145) 20 [.t 137, .t 139, .t 144],
               .val none (some 15) (.mv (.t 145))])
            (.seq (.region false [.val none (some 146) (.mv (.t 0)),
               .val none (some 147) (.nc (.t 146)),
               .val none (some 148) (.fa (.t 147) 0),
               .val none (some 149) (.ld (.t 148) 1 false),
               .val none (some 150) (.mv (.t 14)),
               .val none (some 151) (.ia (.t 149) (.t 150) 20),
               .val none (some 152) (.fa (.t 151) 19),
               .val none (some 153) (.ld (.t 152) 1 false),
               .val none (some 154) (.mv (.t 15)),
               .val none (some 155) (.ia (.t 153) (.c (.int .i64 1)) 1),
               .st none (.t 155) (.t 154) 1])
            (.seq (.region false [.val none (some 156) (.mv (.t 0)),
               .val none (some 157) (.nc (.t 156)),
               .val none (some 158) (.fa (.t 157) 0),
               .val none (some 159) (.ld (.t 158) 1 false),
               .val none (some 160) (.mv (.t 14)),
               .val none (some 161) (.ia (.t 159) (.t 160) 20),
               .val none (some 162) (.fa (.t 161) 19),
               .val none (some 163) (.ld (.t 162) 1 false),
               .val none (some 164) (.ia (.t 163) (.c (.int .i64 1)) 1),
               .val none (some 165) (.ld (.t 164) 1 false),
               .val none (some 6) (.mv (.t 165))])
            .ret)))))
            .skip))))))))))))))))))
  (.seq (.region false [.val none (some 166) (.mv (.t 0)),
     .val none (some 167) (.ld (.t 4) 19 true),
     .val none (some 168) (.fa (.t 5) 0),
     .val none (some 169) (.ld (.t 168) 1 false),
     .bsl none 170 1 1 [.int .i64 0] [(0, 1, .t 169)],
     .call none (some 171) 19 [.t 166, .t 167, .t 170],
     .val none (some 6) (.mv (.t 171))])
  .ret))))) }

/-- (ladderback/bits.Set).copied -/
def a32 : AFn := { ntmps := 14, results := [.cell 4 2 true], body :=
  (.seq (.region false [.box none 2 (.t 0) 2,
     .box none 4 (.c (.agg [.int .i64 0, .nsl])) 2])
  (.seq (.region false [.val none (some 6) (.mv (.t 1)),
     .call none (some 7) 21 [.t 6],
     .box none 5 (.c (.agg [.int .i64 0, .nsl])) 2,
     .st none (.t 5) (.t 7) 2])
  (.seq (.region false [.val none (some 8) (.fa (.t 5) 1),
     .val none (some 9) (.ld (.t 8) 1 false),
     .val none (some 10) (.fa (.t 2) 1),
     .val none (some 11) (.ld (.t 10) 1 false),
     .cpy none (some 12) (.t 9) (.t 11) 1])
  (.seq (.region false [.val none (some 13) (.ld (.t 5) 2 true),
     .st none (.t 4) (.t 13) 2])
  .ret)))) }

/-- ladderback/expr.Same -/
def a33 : AFn := { ntmps := 60, results := [.tmp 4], body :=
  (.seq (.region false [.box none 2 (.t 0) 5,
     .box none 3 (.t 1) 5,
     .val none (some 4) (.mv (.c (.bool false)))])
  (.seq (.seq (.region false [.val none (some 6) (.fa (.t 2) 0),
      .val none (some 7) (.ld (.t 6) 1 false),
      .val none (some 8) (.fa (.t 3) 0),
      .val none (some 9) (.ld (.t 8) 1 false),
      .val none (some 10) (.bin .neq (.t 7) (.t 9)),
      .val none (some 11) (.mv (.t 10)),
      .val (some (11, false)) (some 12) (.fa (.t 2) 1),
      .val (some (11, false)) (some 13) (.ld (.t 12) 1 false),
      .val (some (11, false)) (some 14) (.fa (.t 3) 1),
      .val (some (11, false)) (some 15) (.ld (.t 14) 1 false),
      .val (some (11, false)) (some 16) (.bin .neq (.t 13) (.t 15)),
      .val none (some 17) (.pick (.t 11) (.c (.bool true)) (.t 16)),
      .val none (some 18) (.mv (.t 17)),
      .val (some (18, false)) (some 19) (.fa (.t 2) 2),
      .val (some (18, false)) (some 20) (.ld (.t 19) 1 false),
      .val (some (18, false)) (some 21) (.fa (.t 3) 2),
      .val (some (18, false)) (some 22) (.ld (.t 21) 1 false),
      .val (some (18, false)) (some 23) (.bin .neq (.t 20) (.t 22)),
      .val none (some 24) (.pick (.t 18) (.c (.bool true)) (.t 23)),
      .val none (some 25) (.mv (.t 24)),
      .val (some (25, false)) (some 26) (.fa (.t 2) 3),
      .val (some (25, false)) (some 27) (.ld (.t 26) 1 false),
      .val (some (25, false)) (some 28) (.fa (.t 3) 3),
      .val (some (25, false)) (some 29) (.ld (.t 28) 1 false),
      .val (some (25, false)) (some 30) (.bin .neq (.t 27) (.t 29)),
      .val none (some 31) (.pick (.t 25) (.c (.bool true)) (.t 30)),
      .val none (some 32) (.mv (.t 31)),
      .val (some (32, false)) (some 33) (.fa (.t 2) 4),
      .val (some (32, false)) (some 34) (.ld (.t 33) 1 false),
      .val (some (32, false)) (some 35) (.len (.t 34)),
      .val (some (32, false)) (some 36) (.fa (.t 3) 4),
      .val (some (32, false)) (some 37) (.ld (.t 36) 1 false),
      .val (some (32, false)) (some 38) (.len (.t 37)),
      .val (some (32, false)) (some 39) (.bin .neq (.t 35) (.t 38)),
      .val none (some 40) (.pick (.t 32) (.c (.bool true)) (.t 39))])
   (.cond (.t 40)
    (.seq (.region false [.val none (some 4) (.mv (.c (.bool false)))])
    .ret)
    .skip))
  (.seq (.seq (.region false [.val none (some 41) (.fa (.t 2) 4),
      .val none (some 42) (.ld (.t 41) 1 false),
      .val none (some 43) (.len (.t 42)),
      .val none (some 44) (.mv (.c (.int .i64 0)))])
   (.block 0 (.loop [2, 3, 43, 44] [2, 3]
     (.seq (.region false [.val none (some 45) (.bin .lss (.t 44) (.t 43))])
     (.seq (.cond (.t 45)
       .skip
       (.exit 0))
     (.seq (.block 1 (.seq (.region false [.val none (some 46) (.mv (.t 44)),
          .val none (some 5) (.mv (.t 46))])
       (.seq (.region true [.val none (some 47) (.fa (.t 2) 4),
          .val none (some 48) (.ld (.t 47) 1 false),
          .val none (some 49) (.mv (.t 5)),
          .val none (some 50) (.ia (.t 48) (.t 49) 5),
          .val none (some 51) (.ld (.t 50) 5 true),
          .val none (some 52) (.fa (.t 3) 4),
          .val none (some 53) (.ld (.t 52) 1 false),
          .val none (some 54) (.mv (.t 5)),
          .val none (some 55) (.ia (.t 53) (.t 54) 5),
          .val none (some 56) (.ld (.t 55) 5 true),
          .call none (some 57) 33 [.t 51, .t 56],
          .val none (some 58) (.un .not (.t 57))])
       (.cond (.t 58)
        (.seq (.region false [.val none (some 4) (.mv (.c (.bool false)))])
        .ret)
        .skip))))
     (.region false [.val none (some 59) (.bin .add (.t 44) (.c (.int .i64 1))),
       .val none (some 44) (.mv (.t 59))])))))))
  (.seq (.region false [.val none (some 4) (.mv (.c (.bool true)))])
  .ret)))) }

/-- ladderback/stmt.same$1 -/
def a34 : AFn := { ntmps := 17, results := [.tmp 4], body :=
  (.seq (.region false [.box none 2 (.t 0) 6,
     .box none 3 (.t 1) 6,
     .val none (some 4) (.mv (.c (.bool false)))])
  (.seq (.region false [.val none (some 5) (.fa (.t 2) 0),
     .val none (some 6) (.ld (.t 5) 1 false),
     .val none (some 7) (.fa (.t 3) 0),
     .val none (some 8) (.ld (.t 7) 1 false),
     .val none (some 9) (.bin .eql (.t 6) (.t 8)),
     .val none (some 10) (.mv (.t 9)),
     .val (some (10, true)) (some 11) (.fa (.t 2) 1),
     .val (some (10, true)) (some 12) (.ld (.t 11) 5 true),
     .val (some (10, true)) (some 13) (.fa (.t 3) 1),
     .val (some (10, true)) (some 14) (.ld (.t 13) 5 true),
     .call (some (10, true)) (some 15) 33 [.t 12, .t 14],
     .val none (some 16) (.pick (.t 10) (.t 15) (.c (.bool false))),
     .val none (some 4) (.mv (.t 16))])
  .ret)) }

/-- ladderback/stmt.same$2 -/
def a35 : AFn := { ntmps := 8, results := [.tmp 4], body :=
  (.seq (.region false [.val none (some 4) (.mv (.c (.bool false)))])
  (.seq (.region false [.val none (some 5) (.mv (.t 0)),
     .val none (some 6) (.mv (.t 1)),
     .val none (some 7) (.bin .eql (.t 5) (.t 6)),
     .val none (some 4) (.mv (.t 7))])
  .ret)) }

/-- ladderback/stmt.same$3 -/
def a36 : AFn := { ntmps := 19, results := [.tmp 5], body :=
  (.seq (.region false [.box none 3 (.t 0) 2,
     .box none 4 (.t 1) 2,
     .val none (some 5) (.mv (.c (.bool false)))])
  (.seq (.region false [.val none (some 6) (.fa (.t 3) 0),
     .val none (some 7) (.ld (.t 6) 1 false),
     .val none (some 8) (.fa (.t 4) 0),
     .val none (some 9) (.ld (.t 8) 1 false),
     .val none (some 10) (.ld (.t 2) 1 false),
     .call none (some 11) 37 [.t 7, .t 9, .t 10],
     .val none (some 12) (.mv (.t 11)),
     .val (some (12, true)) (some 13) (.fa (.t 3) 1),
     .val (some (12, true)) (some 14) (.ld (.t 13) 1 false),
     .val (some (12, true)) (some 15) (.fa (.t 4) 1),
     .val (some (12, true)) (some 16) (.ld (.t 15) 1 false),
     .call (some (12, true)) (some 17) 13 [.t 14, .t 16],
     .val none (some 18) (.pick (.t 12) (.t 17) (.c (.bool false))),
     .val none (some 5) (.mv (.t 18))])
  .ret)) }

/-- ladderback/stmt.like[int] -/
def a37 : AFn := { ntmps := 30, results := [.tmp 6], body :=
  (.seq (.region false [.val none (some 6) (.mv (.c (.bool false)))])
  (.seq (.seq (.region false [.val none (some 8) (.mv (.t 0)),
      .val none (some 9) (.len (.t 8)),
      .val none (some 10) (.mv (.t 1)),
      .val none (some 11) (.len (.t 10)),
      .val none (some 12) (.bin .neq (.t 9) (.t 11))])
   (.cond (.t 12)
    (.seq (.region false [.val none (some 6) (.mv (.c (.bool false)))])
    .ret)
    .skip))
  (.seq (.seq (.region false [.val none (some 13) (.mv (.t 0)),
      .val none (some 14) (.len (.t 13)),
      .val none (some 15) (.mv (.c (.int .i64 0)))])
   (.block 0 (.loop [0, 1, 2, 14, 15] []
     (.seq (.region false [.val none (some 16) (.bin .lss (.t 15) (.t 14))])
     (.seq (.cond (.t 16)
       .skip
       (.exit 0))
     (.seq (.block 1 (.seq (.region false [.val none (some 17) (.mv (.t 15)),
          .val none (some 7) (.mv (.t 17))])
       (.seq (.region true [.val none (some 18) (.mv (.t 2)),
          .val none (some 19) (.mv (.t 0)),
          .val none (some 20) (.mv (.t 7)),
          .val none (some 21) (.ia (.t 19) (.t 20) 1),
          .val none (some 22) (.ld (.t 21) 1 false),
          .val none (some 23) (.mv (.t 1)),
          .val none (some 24) (.mv (.t 7)),
          .val none (some 25) (.ia (.t 23) (.t 24) 1),
          .val none (some 26) (.ld (.t 25) 1 false),
          .callv none (some 27) (.t 18) [.t 22, .t 26],
          .val none (some 28) (.un .not (.t 27))])
       (.cond (.t 28)
        (.seq (.region false [.val none (some 6) (.mv (.c (.bool false)))])
        .ret)
        .skip))))
     (.region false [.val none (some 29) (.bin .add (.t 15) (.c (.int .i64 1))),
       .val none (some 15) (.mv (.t 29))])))))))
  (.seq (.region false [.val none (some 6) (.mv (.c (.bool true)))])
  .ret)))) }

/-- ladderback/stmt.like[ladderback/api.Expr] -/
def a38 : AFn := { ntmps := 30, results := [.tmp 6], body :=
  (.seq (.region false [.val none (some 6) (.mv (.c (.bool false)))])
  (.seq (.seq (.region false [.val none (some 8) (.mv (.t 0)),
      .val none (some 9) (.len (.t 8)),
      .val none (some 10) (.mv (.t 1)),
      .val none (some 11) (.len (.t 10)),
      .val none (some 12) (.bin .neq (.t 9) (.t 11))])
   (.cond (.t 12)
    (.seq (.region false [.val none (some 6) (.mv (.c (.bool false)))])
    .ret)
    .skip))
  (.seq (.seq (.region false [.val none (some 13) (.mv (.t 0)),
      .val none (some 14) (.len (.t 13)),
      .val none (some 15) (.mv (.c (.int .i64 0)))])
   (.block 0 (.loop [0, 1, 2, 14, 15] []
     (.seq (.region false [.val none (some 16) (.bin .lss (.t 15) (.t 14))])
     (.seq (.cond (.t 16)
       .skip
       (.exit 0))
     (.seq (.block 1 (.seq (.region false [.val none (some 17) (.mv (.t 15)),
          .val none (some 7) (.mv (.t 17))])
       (.seq (.region true [.val none (some 18) (.mv (.t 2)),
          .val none (some 19) (.mv (.t 0)),
          .val none (some 20) (.mv (.t 7)),
          .val none (some 21) (.ia (.t 19) (.t 20) 5),
          .val none (some 22) (.ld (.t 21) 5 true),
          .val none (some 23) (.mv (.t 1)),
          .val none (some 24) (.mv (.t 7)),
          .val none (some 25) (.ia (.t 23) (.t 24) 5),
          .val none (some 26) (.ld (.t 25) 5 true),
          .callv none (some 27) (.t 18) [.t 22, .t 26],
          .val none (some 28) (.un .not (.t 27))])
       (.cond (.t 28)
        (.seq (.region false [.val none (some 6) (.mv (.c (.bool false)))])
        .ret)
        .skip))))
     (.region false [.val none (some 29) (.bin .add (.t 15) (.c (.int .i64 1))),
       .val none (some 15) (.mv (.t 29))])))))))
  (.seq (.region false [.val none (some 6) (.mv (.c (.bool true)))])
  .ret)))) }

/-- ladderback/stmt.like[ladderback/api.Arg] -/
def a39 : AFn := { ntmps := 30, results := [.tmp 6], body :=
  (.seq (.region false [.val none (some 6) (.mv (.c (.bool false)))])
  (.seq (.seq (.region false [.val none (some 8) (.mv (.t 0)),
      .val none (some 9) (.len (.t 8)),
      .val none (some 10) (.mv (.t 1)),
      .val none (some 11) (.len (.t 10)),
      .val none (some 12) (.bin .neq (.t 9) (.t 11))])
   (.cond (.t 12)
    (.seq (.region false [.val none (some 6) (.mv (.c (.bool false)))])
    .ret)
    .skip))
  (.seq (.seq (.region false [.val none (some 13) (.mv (.t 0)),
      .val none (some 14) (.len (.t 13)),
      .val none (some 15) (.mv (.c (.int .i64 0)))])
   (.block 0 (.loop [0, 1, 2, 14, 15] []
     (.seq (.region false [.val none (some 16) (.bin .lss (.t 15) (.t 14))])
     (.seq (.cond (.t 16)
       .skip
       (.exit 0))
     (.seq (.block 1 (.seq (.region false [.val none (some 17) (.mv (.t 15)),
          .val none (some 7) (.mv (.t 17))])
       (.seq (.region true [.val none (some 18) (.mv (.t 2)),
          .val none (some 19) (.mv (.t 0)),
          .val none (some 20) (.mv (.t 7)),
          .val none (some 21) (.ia (.t 19) (.t 20) 6),
          .val none (some 22) (.ld (.t 21) 6 true),
          .val none (some 23) (.mv (.t 1)),
          .val none (some 24) (.mv (.t 7)),
          .val none (some 25) (.ia (.t 23) (.t 24) 6),
          .val none (some 26) (.ld (.t 25) 6 true),
          .callv none (some 27) (.t 18) [.t 22, .t 26],
          .val none (some 28) (.un .not (.t 27))])
       (.cond (.t 28)
        (.seq (.region false [.val none (some 6) (.mv (.c (.bool false)))])
        .ret)
        .skip))))
     (.region false [.val none (some 29) (.bin .add (.t 15) (.c (.int .i64 1))),
       .val none (some 15) (.mv (.t 29))])))))))
  (.seq (.region false [.val none (some 6) (.mv (.c (.bool true)))])
  .ret)))) }

/-- ladderback/stmt.like[ladderback/api.Arm] -/
def a40 : AFn := { ntmps := 30, results := [.tmp 6], body :=
  (.seq (.region false [.val none (some 6) (.mv (.c (.bool false)))])
  (.seq (.seq (.region false [.val none (some 8) (.mv (.t 0)),
      .val none (some 9) (.len (.t 8)),
      .val none (some 10) (.mv (.t 1)),
      .val none (some 11) (.len (.t 10)),
      .val none (some 12) (.bin .neq (.t 9) (.t 11))])
   (.cond (.t 12)
    (.seq (.region false [.val none (some 6) (.mv (.c (.bool false)))])
    .ret)
    .skip))
  (.seq (.seq (.region false [.val none (some 13) (.mv (.t 0)),
      .val none (some 14) (.len (.t 13)),
      .val none (some 15) (.mv (.c (.int .i64 0)))])
   (.block 0 (.loop [0, 1, 2, 14, 15] []
     (.seq (.region false [.val none (some 16) (.bin .lss (.t 15) (.t 14))])
     (.seq (.cond (.t 16)
       .skip
       (.exit 0))
     (.seq (.block 1 (.seq (.region false [.val none (some 17) (.mv (.t 15)),
          .val none (some 7) (.mv (.t 17))])
       (.seq (.region true [.val none (some 18) (.mv (.t 2)),
          .val none (some 19) (.mv (.t 0)),
          .val none (some 20) (.mv (.t 7)),
          .val none (some 21) (.ia (.t 19) (.t 20) 2),
          .val none (some 22) (.ld (.t 21) 2 true),
          .val none (some 23) (.mv (.t 1)),
          .val none (some 24) (.mv (.t 7)),
          .val none (some 25) (.ia (.t 23) (.t 24) 2),
          .val none (some 26) (.ld (.t 25) 2 true),
          .callv none (some 27) (.t 18) [.t 22, .t 26],
          .val none (some 28) (.un .not (.t 27))])
       (.cond (.t 28)
        (.seq (.region false [.val none (some 6) (.mv (.c (.bool false)))])
        .ret)
        .skip))))
     (.region false [.val none (some 29) (.bin .add (.t 15) (.c (.int .i64 1))),
       .val none (some 15) (.mv (.t 29))])))))))
  (.seq (.region false [.val none (some 6) (.mv (.c (.bool true)))])
  .ret)))) }

/-- ladderback/ladderbackref26.Room -/
def a41 : AFn := { ntmps := 35, results := [.tmp 6], body :=
  (.seq (.region false [.box none 3 (.t 0) 5,
     .val none (some 6) (.mv (.c (.int .i64 0)))])
  (.seq (.seq (.region false [.val none (some 8) (.mv (.t 1)),
      .val none (some 9) (.bin .lss (.t 8) (.c (.int .i64 1))),
      .val none (some 10) (.mv (.t 9)),
      .val (some (10, false)) (some 11) (.mv (.t 2)),
      .val (some (10, false)) (some 12) (.bin .lss (.t 11) (.c (.int .i64 1))),
      .val none (some 13) (.pick (.t 10) (.c (.bool true)) (.t 12))])
   (.cond (.t 13)
    (.seq (.region false [.val none (some 6) (.mv (.c (.int .i64 (-1))))])
    .ret)
    .skip))
  (.seq (.region false [.val none (some 14) (.mv (.t 1)),
     .val none (some 15) (.bin .sub (.t 14) (.c (.int .i64 1))),
     .val none (some 1) (.mv (.t 15))])
  (.seq (.seq (.region false [.val none (some 7) (.mv (.c (.int .i64 0)))])
   (.block 0 (.loop [1, 2, 3, 7] [3]
     (.seq (.seq (.region false [.val none (some 16) (.mv (.t 7)),
         .val none (some 17) (.fa (.t 3) 4),
         .val none (some 18) (.ld (.t 17) 1 false),
         .val none (some 19) (.len (.t 18)),
         .val none (some 20) (.bin .lss (.t 16) (.t 19))])
      (.cond (.t 20)
       .skip
       (.exit 0)))
     (.seq (.block 1 (.seq (.region false [.val none (some 23) (.fa (.t 3) 4),
          .val none (some 24) (.ld (.t 23) 1 false),
          .val none (some 25) (.mv (.t 7)),
          .val none (some 26) (.ia (.t 24) (.t 25) 5),
          .val none (some 27) (.ld (.t 26) 5 true),
          .val none (some 28) (.mv (.t 1)),
          .val none (some 29) (.mv (.t 2)),
          .val none (some 30) (.bin .sub (.t 29) (.c (.int .i64 1))),
          .call none (some 31) 41 [.t 27, .t 28, .t 30],
          .val none (some 1) (.mv (.t 31))])
       (.seq (.region false [.val none (some 32) (.mv (.t 1)),
          .val none (some 33) (.bin .lss (.t 32) (.c (.int .i64 0)))])
       (.cond (.t 33)
        (.seq (.region false [.val none (some 6) (.mv (.c (.int .i64 (-1))))])
        .ret)
        .skip))))
     (.region false [.val none (some 21) (.mv (.t 7)),
       .val none (some 22) (.bin .add (.t 21) (.c (.int .i64 1))),
       .val none (some 7) (.mv (.t 22))]))))))
  (.seq (.region false [.val none (some 34) (.mv (.t 1)),
     .val none (some 6) (.mv (.t 34))])
  .ret))))) }

/-- (*ladderback/graph.builder).choice -/
def a42 : AFn := { ntmps := 93, results := [.tmp 8], body :=
  (.seq (.region false [.box none 5 (.t 1) 19,
     .box none 6 (.t 2) 19,
     .box none 7 (.t 3) 3,
     .val none (some 8) (.mv (.c (.int .i64 0)))])
  (.seq (.region false [.val none (some 9) (.mv (.c (.int .i64 0)))])
  (.seq (.seq (.region false [.val none (some 22) (.fa (.t 5) 18),
      .val none (some 23) (.ld (.t 22) 1 false),
      .val none (some 24) (.len (.t 23)),
      .val none (some 25) (.mv (.c (.int .i64 0)))])
   (.block 0 (.loop [0, 5, 6, 7, 9, 23, 24, 25] [5, 6, 7]
     (.seq (.region false [.val none (some 26) (.bin .lss (.t 25) (.t 24))])
     (.seq (.cond (.t 26)
       .skip
       (.exit 0))
     (.seq (.block 1 (.seq (.region false [.val none (some 27) (.ia (.t 23) (.t 25) 2),
          .val none (some 28) (.ld (.t 27) 2 true),
          .box none 11 (.c (.agg [.nsl, .nsl])) 2,
          .st none (.t 11) (.t 28) 2])
       (.seq (.region false [.val none (some 29) (.fa (.t 11) 0),
          .val none (some 30) (.ld (.t 29) 1 false),
          .val none (some 31) (.len (.t 30)),
          .val none (some 32) (.mv (.c (.int .i64 0)))])
       (.block 2 (.loop [0, 5, 6, 7, 9, 23, 24, 25, 30, 31, 32] [5, 6, 7]
         (.seq (.region false [.val none (some 33) (.bin .lss (.t 32) (.t 31))])
         (.seq (.cond (.t 33)
           .skip
           (.exit 2))
         (.seq (.block 3 (.seq (.region false [.val none (some 34) (.ia (.t 30) (.t 32) 1),
              .val none (some 35) (.ld (.t 34) 1 false),
              .val none (some 13) (.mv (.t 35))])
           (.seq (.region false [.val none (some 36) (.mv (.t 13)),
              .call none (some 37) 43 [.t 36]])
           (.cond (.t 37)
            (.region false [.val none (some 38) (.mv (.t 9)),
              .val none (some 39) (.mv (.t 13)),
              .val none (some 40) (.bin .add (.t 39) (.c (.int .i64 1))),
              .val none (some 41) (.mx (.t 38) (.t 40)),
              .val none (some 9) (.mv (.t 41))])
            .skip))))
         (.region false [.val none (some 42) (.bin .add (.t 32) (.c (.int .i64 1))),
           .val none (some 32) (.mv (.t 42))])))))))))
     (.region false [.val none (some 43) (.bin .add (.t 25) (.c (.int .i64 1))),
       .val none (some 25) (.mv (.t 43))])))))))
  (.seq (.region false [.val none (some 44) (.mv (.t 0)),
     .val none (some 45) (.fa (.t 5) 17),
     .val none (some 46) (.ld (.t 45) 1 false),
     .val none (some 47) (.ld (.t 7) 3 true),
     .call none (some 48) 20 [.t 44, .t 46, .t 47],
     .val none (some 14) (.mv (.t 48))])
  (.seq (.region false [.val none (some 49) (.mv (.t 9)),
     .val none (some 50) (.bin .add (.t 49) (.c (.int .i64 1))),
     .mks none 51 (.t 50) (.t 50) 1 8 [.int .i64 0],
     .val none (some 15) (.mv (.t 51))])
  (.seq (.seq (.region false [.val none (some 52) (.mv (.t 15)),
      .val none (some 53) (.len (.t 52)),
      .val none (some 54) (.mv (.c (.int .i64 0)))])
   (.block 4 (.loop [0, 5, 6, 7, 14, 15, 53, 54] [5, 6, 7]
     (.seq (.region false [.val none (some 55) (.bin .lss (.t 54) (.t 53))])
     (.seq (.cond (.t 55)
       .skip
       (.exit 4))
     (.seq (.block 5 (.seq (.region false [.val none (some 56) (.mv (.t 54)),
          .val none (some 16) (.mv (.t 56))])
       (.region false [.val none (some 57) (.mv (.t 15)),
         .val none (some 58) (.mv (.t 16)),
         .val none (some 59) (.mv (.t 14)),
         .val none (some 60) (.ia (.t 57) (.t 58) 1),
         .st none (.t 60) (.t 59) 1])))
     (.region false [.val none (some 61) (.bin .add (.t 54) (.c (.int .i64 1))),
       .val none (some 54) (.mv (.t 61))])))))))
  (.seq (.seq (.region false [.val none (some 62) (.fa (.t 5) 18),
      .val none (some 63) (.ld (.t 62) 1 false),
      .val none (some 64) (.len (.t 63)),
      .val none (some 65) (.mv (.c (.int .i64 0)))])
   (.block 6 (.loop [0, 6, 7, 15, 63, 64, 65] [6, 7]
     (.seq (.region false [.val none (some 66) (.bin .lss (.t 65) (.t 64))])
     (.seq (.cond (.t 66)
       .skip
       (.exit 6))
     (.seq (.block 7 (.seq (.region false [.val none (some 67) (.ia (.t 63) (.t 65) 2),
          .val none (some 68) (.ld (.t 67) 2 true),
          .box none 18 (.c (.agg [.nsl, .nsl])) 2,
          .st none (.t 18) (.t 68) 2])
       (.seq (.region false [.val none (some 69) (.mv (.t 0)),
          .val none (some 70) (.fa (.t 18) 1),
          .val none (some 71) (.ld (.t 70) 1 false),
          .val none (some 72) (.ld (.t 7) 3 true),
          .call none (some 73) 20 [.t 69, .t 71, .t 72],
          .val none (some 19) (.mv (.t 73))])
       (.seq (.region false [.val none (some 74) (.fa (.t 18) 0),
          .val none (some 75) (.ld (.t 74) 1 false),
          .val none (some 76) (.len (.t 75)),
          .val none (some 77) (.mv (.c (.int .i64 0)))])
       (.block 8 (.loop [0, 6, 7, 15, 19, 63, 64, 65, 75, 76, 77] [6, 7]
         (.seq (.region false [.val none (some 78) (.bin .lss (.t 77) (.t 76))])
         (.seq (.cond (.t 78)
           .skip
           (.exit 8))
         (.seq (.block 9 (.seq (.region false [.val none (some 79) (.ia (.t 75) (.t 77) 1),
              .val none (some 80) (.ld (.t 79) 1 false),
              .val none (some 21) (.mv (.t 80))])
           (.seq (.region false [.val none (some 81) (.mv (.t 21)),
              .call none (some 82) 43 [.t 81]])
           (.cond (.t 82)
            (.region false [.val none (some 83) (.mv (.t 15)),
              .val none (some 84) (.mv (.t 21)),
              .val none (some 85) (.mv (.t 19)),
              .val none (some 86) (.ia (.t 83) (.t 84) 1),
              .st none (.t 86) (.t 85) 1])
            .skip))))
         (.region false [.val none (some 87) (.bin .add (.t 77) (.c (.int .i64 1))),
           .val none (some 77) (.mv (.t 87))]))))))))))
     (.region false [.val none (some 88) (.bin .add (.t 65) (.c (.int .i64 1))),
       .val none (some 65) (.mv (.t 88))])))))))
  (.seq (.region false [.val none (some 89) (.mv (.t 0)),
     .val none (some 90) (.ld (.t 6) 19 true),
     .val none (some 91) (.mv (.t 15)),
     .call none (some 92) 19 [.t 89, .t 90, .t 91],
     .val none (some 8) (.mv (.t 92))])
  .ret)))))))) }

/-- ladderback/graph.label -/
def a43 : AFn := { ntmps := 9, results := [.tmp 2], body :=
  (.seq (.region false [.val none (some 2) (.mv (.c (.bool false)))])
  (.seq (.region false [.val none (some 3) (.mv (.t 0)),
     .val none (some 4) (.bin .geq (.t 3) (.c (.int .i64 0))),
     .val none (some 5) (.mv (.t 4)),
     .val (some (5, true)) (some 6) (.mv (.t 0)),
     .val (some (5, true)) (some 7) (.bin .leq (.t 6) (.c (.int .i64 255))),
     .val none (some 8) (.pick (.t 5) (.t 7) (.c (.bool false))),
     .val none (some 2) (.mv (.t 8))])
  .ret)) }

theorem ok3 : chkFn Go.Proofs.Try.prog (drawOk Go.Proofs.Try.prog) 3 a3 = true := by kernel_rfl
theorem ok4 : chkFn Go.Proofs.Try.prog (drawOk Go.Proofs.Try.prog) 4 a4 = true := by kernel_rfl
theorem ok5 : chkFn Go.Proofs.Try.prog (drawOk Go.Proofs.Try.prog) 5 a5 = true := by kernel_rfl
theorem ok6 : chkFn Go.Proofs.Try.prog (drawOk Go.Proofs.Try.prog) 6 a6 = true := by kernel_rfl
theorem ok7 : chkFn Go.Proofs.Try.prog (drawOk Go.Proofs.Try.prog) 7 a7 = true := by kernel_rfl
theorem ok8 : chkFn Go.Proofs.Try.prog (drawOk Go.Proofs.Try.prog) 8 a8 = true := by kernel_rfl
theorem ok9 : chkFn Go.Proofs.Try.prog (drawOk Go.Proofs.Try.prog) 9 a9 = true := by kernel_rfl
theorem ok10 : chkFn Go.Proofs.Try.prog (drawOk Go.Proofs.Try.prog) 10 a10 = true := by kernel_rfl
theorem ok11 : chkFn Go.Proofs.Try.prog (drawOk Go.Proofs.Try.prog) 11 a11 = true := by kernel_rfl
theorem ok12 : chkFn Go.Proofs.Try.prog (drawOk Go.Proofs.Try.prog) 12 a12 = true := by kernel_rfl
theorem ok13 : chkFn Go.Proofs.Try.prog (drawOk Go.Proofs.Try.prog) 13 a13 = true := by kernel_rfl
theorem ok14 : chkFn Go.Proofs.Try.prog (drawOk Go.Proofs.Try.prog) 14 a14 = true := by kernel_rfl
theorem ok15 : chkFn Go.Proofs.Try.prog (drawOk Go.Proofs.Try.prog) 15 a15 = true := by kernel_rfl
theorem ok16 : chkFn Go.Proofs.Try.prog (drawOk Go.Proofs.Try.prog) 16 a16 = true := by kernel_rfl
theorem ok17 : chkFn Go.Proofs.Try.prog (drawOk Go.Proofs.Try.prog) 17 a17 = true := by kernel_rfl
theorem ok18 : chkFn Go.Proofs.Try.prog (drawOk Go.Proofs.Try.prog) 18 a18 = true := by kernel_rfl
theorem ok19 : chkFn Go.Proofs.Try.prog (drawOk Go.Proofs.Try.prog) 19 a19 = true := by kernel_rfl
theorem ok20 : chkFn Go.Proofs.Try.prog (drawOk Go.Proofs.Try.prog) 20 a20 = true := by kernel_rfl
theorem ok21 : chkFn Go.Proofs.Try.prog (drawOk Go.Proofs.Try.prog) 21 a21 = true := by kernel_rfl
theorem ok22 : chkFn Go.Proofs.Try.prog (drawOk Go.Proofs.Try.prog) 22 a22 = true := by kernel_rfl
theorem ok23 : chkFn Go.Proofs.Try.prog (drawOk Go.Proofs.Try.prog) 23 a23 = true := by kernel_rfl
theorem ok24 : chkFn Go.Proofs.Try.prog (drawOk Go.Proofs.Try.prog) 24 a24 = true := by kernel_rfl
theorem ok25 : chkFn Go.Proofs.Try.prog (drawOk Go.Proofs.Try.prog) 25 a25 = true := by kernel_rfl
theorem ok26 : chkFn Go.Proofs.Try.prog (drawOk Go.Proofs.Try.prog) 26 a26 = true := by kernel_rfl
theorem ok27 : chkFn Go.Proofs.Try.prog (drawOk Go.Proofs.Try.prog) 27 a27 = true := by kernel_rfl
theorem ok28 : chkFn Go.Proofs.Try.prog (drawOk Go.Proofs.Try.prog) 28 a28 = true := by kernel_rfl
theorem ok29 : chkFn Go.Proofs.Try.prog (drawOk Go.Proofs.Try.prog) 29 a29 = true := by kernel_rfl
theorem ok30 : chkFn Go.Proofs.Try.prog (drawOk Go.Proofs.Try.prog) 30 a30 = true := by kernel_rfl
theorem ok31 : chkFn Go.Proofs.Try.prog (drawOk Go.Proofs.Try.prog) 31 a31 = true := by kernel_rfl
theorem ok32 : chkFn Go.Proofs.Try.prog (drawOk Go.Proofs.Try.prog) 32 a32 = true := by kernel_rfl
theorem ok33 : chkFn Go.Proofs.Try.prog (drawOk Go.Proofs.Try.prog) 33 a33 = true := by kernel_rfl
theorem ok34 : chkFn Go.Proofs.Try.prog (drawOk Go.Proofs.Try.prog) 34 a34 = true := by kernel_rfl
theorem ok35 : chkFn Go.Proofs.Try.prog (drawOk Go.Proofs.Try.prog) 35 a35 = true := by kernel_rfl
theorem ok36 : chkFn Go.Proofs.Try.prog (drawOk Go.Proofs.Try.prog) 36 a36 = true := by kernel_rfl
theorem ok37 : chkFn Go.Proofs.Try.prog (drawOk Go.Proofs.Try.prog) 37 a37 = true := by kernel_rfl
theorem ok38 : chkFn Go.Proofs.Try.prog (drawOk Go.Proofs.Try.prog) 38 a38 = true := by kernel_rfl
theorem ok39 : chkFn Go.Proofs.Try.prog (drawOk Go.Proofs.Try.prog) 39 a39 = true := by kernel_rfl
theorem ok40 : chkFn Go.Proofs.Try.prog (drawOk Go.Proofs.Try.prog) 40 a40 = true := by kernel_rfl
theorem ok41 : chkFn Go.Proofs.Try.prog (drawOk Go.Proofs.Try.prog) 41 a41 = true := by kernel_rfl
theorem ok42 : chkFn Go.Proofs.Try.prog (drawOk Go.Proofs.Try.prog) 42 a42 = true := by kernel_rfl
theorem ok43 : chkFn Go.Proofs.Try.prog (drawOk Go.Proofs.Try.prog) 43 a43 = true := by kernel_rfl
def prog : Prog := fun f => match f with
  | 3 => some a3
  | 4 => some a4
  | 5 => some a5
  | 6 => some a6
  | 7 => some a7
  | 8 => some a8
  | 9 => some a9
  | 10 => some a10
  | 11 => some a11
  | 12 => some a12
  | 13 => some a13
  | 14 => some a14
  | 15 => some a15
  | 16 => some a16
  | 17 => some a17
  | 18 => some a18
  | 19 => some a19
  | 20 => some a20
  | 21 => some a21
  | 22 => some a22
  | 23 => some a23
  | 24 => some a24
  | 25 => some a25
  | 26 => some a26
  | 27 => some a27
  | 28 => some a28
  | 29 => some a29
  | 30 => some a30
  | 31 => some a31
  | 32 => some a32
  | 33 => some a33
  | 34 => some a34
  | 35 => some a35
  | 36 => some a36
  | 37 => some a37
  | 38 => some a38
  | 39 => some a39
  | 40 => some a40
  | 41 => some a41
  | 42 => some a42
  | 43 => some a43
  | _ => none
theorem texts : ∀ f a, prog f = some a → chkFn Go.Proofs.Try.prog (drawOk Go.Proofs.Try.prog) f a = true := by
  intro f a h
  unfold prog at h
  split at h
  · injection h with h; subst h; exact ok3
  · injection h with h; subst h; exact ok4
  · injection h with h; subst h; exact ok5
  · injection h with h; subst h; exact ok6
  · injection h with h; subst h; exact ok7
  · injection h with h; subst h; exact ok8
  · injection h with h; subst h; exact ok9
  · injection h with h; subst h; exact ok10
  · injection h with h; subst h; exact ok11
  · injection h with h; subst h; exact ok12
  · injection h with h; subst h; exact ok13
  · injection h with h; subst h; exact ok14
  · injection h with h; subst h; exact ok15
  · injection h with h; subst h; exact ok16
  · injection h with h; subst h; exact ok17
  · injection h with h; subst h; exact ok18
  · injection h with h; subst h; exact ok19
  · injection h with h; subst h; exact ok20
  · injection h with h; subst h; exact ok21
  · injection h with h; subst h; exact ok22
  · injection h with h; subst h; exact ok23
  · injection h with h; subst h; exact ok24
  · injection h with h; subst h; exact ok25
  · injection h with h; subst h; exact ok26
  · injection h with h; subst h; exact ok27
  · injection h with h; subst h; exact ok28
  · injection h with h; subst h; exact ok29
  · injection h with h; subst h; exact ok30
  · injection h with h; subst h; exact ok31
  · injection h with h; subst h; exact ok32
  · injection h with h; subst h; exact ok33
  · injection h with h; subst h; exact ok34
  · injection h with h; subst h; exact ok35
  · injection h with h; subst h; exact ok36
  · injection h with h; subst h; exact ok37
  · injection h with h; subst h; exact ok38
  · injection h with h; subst h; exact ok39
  · injection h with h; subst h; exact ok40
  · injection h with h; subst h; exact ok41
  · injection h with h; subst h; exact ok42
  · injection h with h; subst h; exact ok43
  · cases h
end TryT
end Go.Abs
