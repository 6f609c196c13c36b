/-
  Part 4 of a proof by a value semantics: what the call computes, and that the model does what the value semantics says.
  Conditions: none.
-/
import Derived.Test.YtgjiooieoeoghaaGreatDoorPc
set_option linter.unusedSimpArgs false
set_option linter.unusedVariables false
set_option linter.unusedSectionVars false
namespace Go.Vs.C
open Go Go.Vs
set_option maxRecDepth 100000
set_option linter.unusedVariables false
def F57_0 (I J : Nat → Nat) : AC :=
  .seq (.reg false [
       { dst := some 57, op := .bin .lss (.slot 56) (.slot 55) }])
    (.seq (.cond (.slot 57)
      (.skip)
      (.exit 2))
     (.seq (.block 3 (.seq (.reg false [
           { dst := some 58, op := .mv (.slot 56) },
           { dst := some 6, op := .mv (.slot 58) }])
        (.seq (.reg true [
            { dst := some 59, op := .faddr 6 (.slot 2) },
            { dst := some 60, op := .load1 (.slot 59) },
            { dst := some 61, op := .mv (.slot 6) },
            { dst := some 62, op := .iaddr 7 (.slot 60) (.slot 61) },
            { dst := some 63, op := .loadA 7 (.slot 62) },
            { dst := some 64, op := .faddr 6 (.slot 3) },
            { dst := some 65, op := .load1 (.slot 64) },
            { dst := some 66, op := .mv (.slot 6) },
            { dst := some 67, op := .iaddr 7 (.slot 65) (.slot 66) },
            { dst := some 68, op := .loadA 7 (.slot 67) },
            { dst := some 69, op := .callP (.lit (.fn (I 57) [])) [(.slot 63), (.slot 68)] false false },
            { dst := some 70, op := .un .not (.slot 69) }])
         (.cond (.slot 70)
          (.seq (.reg false [
              { dst := some 4, op := .mv (.lit (.bool false)) }])
           (.ret))
          (.skip)))))
      (.reg false [
         { dst := some 71, op := .bin .add (.slot 56) (.lit (.int .i64 1)) },
         { dst := some 56, op := .mv (.slot 71) }])))
def F57_1 (I J : Nat → Nat) : AC :=
  .block 1 (.seq (.seq (.reg false [
         { dst := some 7, op := .faddr 0 (.slot 2) },
         { dst := some 8, op := .load1 (.slot 7) },
         { dst := some 9, op := .faddr 0 (.slot 3) },
         { dst := some 10, op := .load1 (.slot 9) },
         { dst := some 11, op := .bin .neq (.slot 8) (.slot 10) },
         { dst := some 12, op := .mv (.slot 11) },
         { dst := some 13, op := .faddr 1 (.slot 2), guard := some (12, false) },
         { dst := some 14, op := .load1 (.slot 13), guard := some (12, false) },
         { dst := some 15, op := .faddr 1 (.slot 3), guard := some (12, false) },
         { dst := some 16, op := .load1 (.slot 15), guard := some (12, false) },
         { dst := some 17, op := .bin .neq (.slot 14) (.slot 16), guard := some (12, false) },
         { dst := some 18, op := .pick (.slot 12) (.lit (.bool true)) (.slot 17) },
         { dst := some 19, op := .mv (.slot 18) },
         { dst := some 20, op := .faddr 2 (.slot 2), guard := some (19, false) },
         { dst := some 21, op := .load1 (.slot 20), guard := some (19, false) },
         { dst := some 22, op := .faddr 2 (.slot 3), guard := some (19, false) },
         { dst := some 23, op := .load1 (.slot 22), guard := some (19, false) },
         { dst := some 24, op := .bin .neq (.slot 21) (.slot 23), guard := some (19, false) },
         { dst := some 25, op := .pick (.slot 19) (.lit (.bool true)) (.slot 24) },
         { dst := some 26, op := .mv (.slot 25) },
         { dst := some 27, op := .faddr 3 (.slot 2), guard := some (26, false) },
         { dst := some 28, op := .loadA 2 (.slot 27), guard := some (26, false) },
         { dst := some 29, op := .faddr 3 (.slot 3), guard := some (26, false) },
         { dst := some 30, op := .loadA 2 (.slot 29), guard := some (26, false) },
         { dst := some 31, op := .eqA true [0, 0] (.slot 28) (.slot 30), guard := some (26, false) },
         { dst := some 32, op := .pick (.slot 26) (.lit (.bool true)) (.slot 31) },
         { dst := some 33, op := .mv (.slot 32) },
         { dst := some 34, op := .faddr 5 (.slot 2), guard := some (33, false) },
         { dst := some 35, op := .load1 (.slot 34), guard := some (33, false) },
         { dst := some 36, op := .faddr 5 (.slot 3), guard := some (33, false) },
         { dst := some 37, op := .load1 (.slot 36), guard := some (33, false) },
         { dst := some 38, op := .bin .neq (.slot 35) (.slot 37), guard := some (33, false) },
         { dst := some 39, op := .pick (.slot 33) (.lit (.bool true)) (.slot 38) },
         { dst := some 40, op := .mv (.slot 39) },
         { dst := some 41, op := .faddr 6 (.slot 2), guard := some (40, false) },
         { dst := some 42, op := .load1 (.slot 41), guard := some (40, false) },
         { dst := some 43, op := .lenL (.slot 42), guard := some (40, false) },
         { dst := some 44, op := .faddr 6 (.slot 3), guard := some (40, false) },
         { dst := some 45, op := .load1 (.slot 44), guard := some (40, false) },
         { dst := some 46, op := .lenL (.slot 45), guard := some (40, false) },
         { dst := some 47, op := .bin .neq (.slot 43) (.slot 46), guard := some (40, false) },
         { dst := some 48, op := .pick (.slot 40) (.lit (.bool true)) (.slot 47) }])
      (.cond (.slot 48)
       (.seq (.reg false [
           { dst := some 4, op := .mv (.lit (.bool false)) }])
        (.ret))
       (.skip)))
     (.seq (.reg false [
         { dst := some 49, op := .faddr 6 (.slot 2) },
         { dst := some 50, op := .load1 (.slot 49) },
         { dst := some 51, op := .lenL (.slot 50) },
         { dst := some 5, op := .mv (.slot 51) }])
      (.seq (.seq (.reg false [
           { dst := some 52, op := .mv (.slot 5) },
           { dst := some 53, op := .bin .eql (.slot 52) (.lit (.int .i64 0)) }])
        (.cond (.slot 53)
         (.seq (.reg false [
             { dst := some 4, op := .mv (.lit (.bool true)) }])
          (.ret))
         (.skip)))
       (.seq (.seq (.reg false [
            { dst := some 54, op := .mv (.slot 5) },
            { dst := some 55, op := .bin .sub (.slot 54) (.lit (.int .i64 1)) },
            { dst := some 56, op := .mv (.lit (.int .i64 0)) }])
         (.block 2 (.loop [2, 3, 5, 55, 56] [2, 3] (F57_0 I J))))
        (.reg true [
           { dst := some 72, op := .faddr 6 (.slot 2) },
           { dst := some 73, op := .ldL 2 none (.slot 72) },
           { dst := some 74, op := .mv (.slot 5) },
           { dst := some 75, op := .bin .sub (.slot 74) (.lit (.int .i64 1)) },
           { dst := some 76, op := .iaddr 7 (.slot 73) (.slot 75) },
           { dst := some 77, op := .ldL 77 (some 7) (.slot 76) },
           { dst := some 78, op := .faddr 6 (.slot 3) },
           { dst := some 79, op := .ldL 3 none (.slot 78) },
           { dst := some 80, op := .mv (.slot 5) },
           { dst := some 81, op := .bin .sub (.slot 80) (.lit (.int .i64 1)) },
           { dst := some 82, op := .iaddr 7 (.slot 79) (.slot 81) },
           { dst := some 83, op := .ldL 83 (some 7) (.slot 82) },
           { dst := none, op := .stL 2 (some 7) (.slot 2) (.slot 77) },
           { dst := none, op := .stL 3 (some 7) (.slot 3) (.slot 83) }])))))
/-- lispprover/object.Equal -/
def F57 (I J : Nat → Nat) : AFunc where
  code := .seq (.reg false [
       { dst := some 2, op := .box (.slot 0) },
       { dst := some 3, op := .box (.slot 1) },
       { dst := some 4, op := .mv (.lit (.bool false)) }])
    (.block 0 (.loop [2, 3] [2, 3] (F57_1 I J)))
  res := [.tmp 4]
  keepOwn := false

/-- lispprover/object.Valid -/
def F77 (I J : Nat → Nat) : AFunc where
  code := .seq (.reg false [
       { dst := some 1, op := .box (.slot 0) },
       { dst := some 2, op := .mv (.lit (.bool false)) }])
    (.seq (.reg false [
        { dst := some 3, op := .loadA 7 (.slot 1) },
        { dst := some 4, op := .callP (.lit (.fn (I 91) [])) [(.slot 3)] false false },
        { dst := some 5, op := .bin .leq (.slot 4) (.lit (.int .i64 3000)) },
        { dst := some 6, op := .mv (.slot 5) },
        { dst := some 7, op := .loadA 7 (.slot 1), guard := some (6, true) },
        { dst := some 8, op := .callP (.lit (.fn (I 92) [])) [(.slot 7)] false false, guard := some (6, true) },
        { dst := some 9, op := .pick (.slot 6) (.slot 8) (.lit (.bool false)) },
        { dst := some 2, op := .mv (.slot 9) }])
     (.ret))
  res := [.tmp 2]
  keepOwn := false

/-- lispprover/object.Symbol -/
def F81 (I J : Nat → Nat) : AFunc where
  code := .seq (.reg false [
       { dst := some 1, op := .box (.slot 0) },
       { dst := some 2, op := .alloc [.int .i64 0, .str [], .str [], .str [], .str [], .str [], .slice []] }])
    (.seq (.reg false [
        { dst := some 3, op := .loadA 2 (.slot 1) },
        { dst := some 4, op := .build [.int .i64 0, .str [], .str [], .str [], .str [], .str [], .slice []] [(0, 1, (.lit (.int .i64 2))), (3, 2, (.slot 3))] },
        { dst := none, op := .storeA 7 (.slot 2) (.slot 4) }])
     (.ret))
  res := [.cell 2 7 true]
  keepOwn := false

def F83_0 (I J : Nat → Nat) : AC :=
  .seq (.seq (.reg false [
        { dst := some 9, op := .mv (.slot 4) },
        { dst := some 10, op := .bin .geq (.slot 9) (.lit (.int .i64 0)) }])
     (.cond (.slot 10)
      (.skip)
      (.exit 0)))
    (.seq (.block 1 (.reg true [
         { dst := some 13, op := .mv (.slot 0) },
         { dst := some 14, op := .mv (.slot 4) },
         { dst := some 15, op := .iaddr 7 (.slot 13) (.slot 14) },
         { dst := some 16, op := .ldL 16 (some 7) (.slot 15) },
         { dst := some 17, op := .ldL 3 (some 7) (.slot 3) },
         { dst := some 18, op := .callP (.lit (.fn (I 99) [])) [(.slot 16), (.slot 17)] false false },
         { dst := none, op := .stL 3 (some 7) (.slot 3) (.slot 18) }]))
     (.reg false [
        { dst := some 11, op := .mv (.slot 4) },
        { dst := some 12, op := .bin .sub (.slot 11) (.lit (.int .i64 1)) },
        { dst := some 4, op := .mv (.slot 12) }]))
/-- lispprover/object.List -/
def F83 (I J : Nat → Nat) : AFunc where
  code := .seq (.reg false [
       { dst := some 2, op := .alloc [.int .i64 0, .str [], .str [], .str [], .str [], .str [], .slice []] }])
    (.seq (.reg false [
        { dst := some 5, op := .callP (.lit (.fn (I 98) [])) [] false false },
        { dst := some 3, op := .alloc [.int .i64 0, .str [], .str [], .str [], .str [], .str [], .slice []] },
        { dst := none, op := .storeA 7 (.slot 3) (.slot 5) }])
     (.seq (.seq (.reg false [
          { dst := some 6, op := .mv (.slot 0) },
          { dst := some 7, op := .lenL (.slot 6) },
          { dst := some 8, op := .bin .sub (.slot 7) (.lit (.int .i64 1)) },
          { dst := some 4, op := .mv (.slot 8) }])
       (.block 0 (.loop [0, 2, 3, 4] [2, 3] (F83_0 I J))))
      (.seq (.reg false [
          { dst := some 19, op := .loadA 7 (.slot 3) },
          { dst := none, op := .storeA 7 (.slot 2) (.slot 19) }])
       (.ret))))
  res := [.cell 2 7 true]
  keepOwn := false

/-- lispprover/object.Nodes -/
def F91 (I J : Nat → Nat) : AFunc where
  code := .seq (.reg false [
       { dst := some 1, op := .box (.slot 0) },
       { dst := some 2, op := .mv (.lit (.int .i64 0)) }])
    (.seq (.reg false [
        { dst := some 3, op := .loadA 7 (.slot 1) },
        { dst := some 4, op := .callP (.lit (.fn (I 110) [])) [(.slot 3), (.lit (.int .i64 3001))] false false },
        { dst := some 5, op := .mx (.lit (.int .i64 0)) (.slot 4) },
        { dst := some 6, op := .bin .sub (.lit (.int .i64 3001)) (.slot 5) },
        { dst := some 2, op := .mv (.slot 6) }])
     (.ret))
  res := [.tmp 2]
  keepOwn := false

def F92_0 (I J : Nat → Nat) : AC :=
  .seq (.seq (.reg false [
        { dst := some 3, op := .faddr 0 (.slot 1) },
        { dst := some 4, op := .load1 (.slot 3) },
        { dst := some 5, op := .bin .eql (.slot 4) (.lit (.int .i64 4)) }])
     (.cond (.slot 5)
      (.skip)
      (.exit 0)))
    (.block 1 (.seq (.seq (.reg false [
          { dst := some 6, op := .faddr 6 (.slot 1) },
          { dst := some 7, op := .load1 (.slot 6) },
          { dst := some 8, op := .lenL (.slot 7) },
          { dst := some 9, op := .bin .neq (.slot 8) (.lit (.int .i64 2)) },
          { dst := some 10, op := .mv (.slot 9) },
          { dst := some 11, op := .loadA 7 (.slot 1), guard := some (10, false) },
          { dst := some 12, op := .callP (.lit (.fn (I 111) [])) [(.slot 11), (.lit (.bool false)), (.lit (.bool false)), (.lit (.bool false))] false false, guard := some (10, false) },
          { dst := some 13, op := .un .not (.slot 12), guard := some (10, false) },
          { dst := some 14, op := .pick (.slot 10) (.lit (.bool true)) (.slot 13) },
          { dst := some 15, op := .mv (.slot 14) },
          { dst := some 16, op := .faddr 6 (.slot 1), guard := some (15, false) },
          { dst := some 17, op := .load1 (.slot 16), guard := some (15, false) },
          { dst := some 18, op := .iaddr 7 (.slot 17) (.lit (.int .i64 0)), guard := some (15, false) },
          { dst := some 19, op := .loadA 7 (.slot 18), guard := some (15, false) },
          { dst := some 20, op := .callP (.lit (.fn (I 92) [])) [(.slot 19)] false false, guard := some (15, false) },
          { dst := some 21, op := .un .not (.slot 20), guard := some (15, false) },
          { dst := some 22, op := .pick (.slot 15) (.lit (.bool true)) (.slot 21) }])
       (.cond (.slot 22)
        (.seq (.reg false [
            { dst := some 2, op := .mv (.lit (.bool false)) }])
         (.ret))
        (.skip)))
      (.reg false [
         { dst := some 23, op := .faddr 6 (.slot 1) },
         { dst := some 24, op := .load1 (.slot 23) },
         { dst := some 25, op := .iaddr 7 (.slot 24) (.lit (.int .i64 1)) },
         { dst := some 26, op := .loadA 7 (.slot 25) },
         { dst := none, op := .storeA 7 (.slot 1) (.slot 26) }])))
/-- lispprover/object.formed -/
def F92 (I J : Nat → Nat) : AFunc where
  code := .seq (.reg false [
       { dst := some 1, op := .box (.slot 0) },
       { dst := some 2, op := .mv (.lit (.bool false)) }])
    (.seq (.block 0 (.loop [1] [1] (F92_0 I J)))
     (.seq (.seq (.reg false [
          { dst := some 27, op := .faddr 0 (.slot 1) },
          { dst := some 28, op := .load1 (.slot 27) }])
       (.block 2 (.seq (.reg false [
            { dst := some 30, op := .bin .eql (.slot 28) (.lit (.int .i64 1)) },
            { dst := some 29, op := .mv (.slot 30) }])
         (.cond (.slot 29)
          (.seq (.reg false [
              { dst := some 31, op := .loadA 7 (.slot 1) },
              { dst := some 32, op := .callP (.lit (.fn (I 111) [])) [(.slot 31), (.lit (.bool true)), (.lit (.bool false)), (.lit (.bool false))] false false },
              { dst := some 33, op := .mv (.slot 32) },
              { dst := some 34, op := .faddr 6 (.slot 1), guard := some (33, true) },
              { dst := some 35, op := .load1 (.slot 34), guard := some (33, true) },
              { dst := some 36, op := .lenL (.slot 35), guard := some (33, true) },
              { dst := some 37, op := .bin .eql (.slot 36) (.lit (.int .i64 0)), guard := some (33, true) },
              { dst := some 38, op := .pick (.slot 33) (.slot 37) (.lit (.bool false)) },
              { dst := some 39, op := .mv (.slot 38) },
              { dst := some 40, op := .faddr 1 (.slot 1), guard := some (39, true) },
              { dst := some 41, op := .load1 (.slot 40), guard := some (39, true) },
              { dst := some 42, op := .faddr 2 (.slot 1), guard := some (39, true) },
              { dst := some 43, op := .load1 (.slot 42), guard := some (39, true) },
              { dst := some 44, op := .callP (.lit (.fn (I 112) [])) [(.slot 41), (.slot 43)] false false, guard := some (39, true) },
              { dst := some 45, op := .pick (.slot 39) (.slot 44) (.lit (.bool false)) },
              { dst := some 2, op := .mv (.slot 45) }])
           (.ret))
          (.seq (.reg false [
              { dst := some 47, op := .bin .eql (.slot 28) (.lit (.int .i64 2)) },
              { dst := some 46, op := .mv (.slot 47) }])
           (.cond (.slot 46)
            (.seq (.reg false [
                { dst := some 48, op := .loadA 7 (.slot 1) },
                { dst := some 49, op := .callP (.lit (.fn (I 111) [])) [(.slot 48), (.lit (.bool false)), (.lit (.bool true)), (.lit (.bool false))] false false },
                { dst := some 50, op := .mv (.slot 49) },
                { dst := some 51, op := .faddr 6 (.slot 1), guard := some (50, true) },
                { dst := some 52, op := .load1 (.slot 51), guard := some (50, true) },
                { dst := some 53, op := .lenL (.slot 52), guard := some (50, true) },
                { dst := some 54, op := .bin .eql (.slot 53) (.lit (.int .i64 0)), guard := some (50, true) },
                { dst := some 55, op := .pick (.slot 50) (.slot 54) (.lit (.bool false)) },
                { dst := some 56, op := .mv (.slot 55) },
                { dst := some 57, op := .faddr 3 (.slot 1), guard := some (56, true) },
                { dst := some 58, op := .loadA 2 (.slot 57), guard := some (56, true) },
                { dst := some 59, op := .callP (.lit (.fn (I 113) [])) [(.slot 58)] false false, guard := some (56, true) },
                { dst := some 60, op := .pick (.slot 56) (.slot 59) (.lit (.bool false)) },
                { dst := some 2, op := .mv (.slot 60) }])
             (.ret))
            (.seq (.reg false [
                { dst := some 62, op := .bin .eql (.slot 28) (.lit (.int .i64 3)) },
                { dst := some 61, op := .mv (.slot 62) }])
             (.cond (.slot 61)
              (.seq (.reg false [
                  { dst := some 63, op := .loadA 7 (.slot 1) },
                  { dst := some 64, op := .callP (.lit (.fn (I 111) [])) [(.slot 63), (.lit (.bool false)), (.lit (.bool false)), (.lit (.bool true))] false false },
                  { dst := some 65, op := .mv (.slot 64) },
                  { dst := some 66, op := .faddr 6 (.slot 1), guard := some (65, true) },
                  { dst := some 67, op := .load1 (.slot 66), guard := some (65, true) },
                  { dst := some 68, op := .lenL (.slot 67), guard := some (65, true) },
                  { dst := some 69, op := .bin .eql (.slot 68) (.lit (.int .i64 0)), guard := some (65, true) },
                  { dst := some 70, op := .pick (.slot 65) (.slot 69) (.lit (.bool false)) },
                  { dst := some 71, op := .mv (.slot 70) },
                  { dst := some 72, op := .faddr 5 (.slot 1), guard := some (71, true) },
                  { dst := some 73, op := .load1 (.slot 72), guard := some (71, true) },
                  { dst := some 74, op := .lenS (.slot 73), guard := some (71, true) },
                  { dst := some 75, op := .bin .leq (.slot 74) (.lit (.int .i64 200)), guard := some (71, true) },
                  { dst := some 76, op := .pick (.slot 71) (.slot 75) (.lit (.bool false)) },
                  { dst := some 2, op := .mv (.slot 76) }])
               (.ret))
              (.skip)))))))))
      (.seq (.reg false [
          { dst := some 2, op := .mv (.lit (.bool false)) }])
       (.ret))))
  res := [.tmp 2]
  keepOwn := false

def F93_0 (I J : Nat → Nat) : AC :=
  .seq (.seq (.reg false [
        { dst := some 5, op := .loadA 7 (.slot 1) },
        { dst := some 6, op := .callP (.lit (.fn (I 114) [])) [(.slot 5)] false false }])
     (.cond (.slot 6)
      (.skip)
      (.exit 0)))
    (.block 1 (.seq (.reg false [
         { dst := some 7, op := .mv (.take 4) },
         { dst := some 8, op := .faddr 6 (.slot 1) },
         { dst := some 9, op := .load1 (.slot 8) },
         { dst := some 10, op := .iaddr 7 (.slot 9) (.lit (.int .i64 0)) },
         { dst := some 11, op := .loadA 7 (.slot 10) },
         { dst := some 12, op := .lits false 7 [(.slot 11)] },
         { dst := some 13, op := .app false false 7 (.take 7) (.slot 12) },
         { dst := some 4, op := .mv (.take 13) }])
      (.reg false [
         { dst := some 14, op := .faddr 6 (.slot 1) },
         { dst := some 15, op := .load1 (.slot 14) },
         { dst := some 16, op := .iaddr 7 (.slot 15) (.lit (.int .i64 1)) },
         { dst := some 17, op := .loadA 7 (.slot 16) },
         { dst := none, op := .storeA 7 (.slot 1) (.slot 17) }])))
/-- lispprover/object.Items -/
def F93 (I J : Nat → Nat) : AFunc where
  code := .seq (.reg false [
       { dst := some 1, op := .box (.slot 0) },
       { dst := some 2, op := .mv (.lit (.slice [])) },
       { dst := some 3, op := .mv (.lit (.bool false)) }])
    (.seq (.reg false [
        { dst := some 4, op := .mv (.lit (.onil)) }])
     (.seq (.block 0 (.loop [1, 4] [1] (F93_0 I J)))
      (.seq (.seq (.reg false [
           { dst := some 18, op := .loadA 7 (.slot 1) },
           { dst := some 19, op := .callP (.lit (.fn (I 115) [])) [(.slot 18)] false false },
           { dst := some 20, op := .un .not (.slot 19) }])
        (.cond (.slot 20)
         (.seq (.reg false [
             { dst := some 2, op := .mv (.lit (.slice [])) },
             { dst := some 3, op := .mv (.lit (.bool false)) }])
          (.ret))
         (.skip)))
       (.seq (.reg false [
           { dst := some 21, op := .mv (.slot 4) },
           { dst := some 2, op := .mv (.slot 21) },
           { dst := some 3, op := .mv (.lit (.bool true)) }])
        (.ret)))))
  res := [.tmp 2, .tmp 3]
  keepOwn := false

/-- lispprover/object.Nil -/
def F98 (I J : Nat → Nat) : AFunc where
  code := .seq (.reg false [
       { dst := some 0, op := .alloc [.int .i64 0, .str [], .str [], .str [], .str [], .str [], .slice []] }])
    (.seq (.reg false [
        { dst := some 1, op := .build [.str [], .str []] [(0, 1, (.lit (.str [108, 105, 115, 112]))), (1, 1, (.lit (.str [110, 105, 108])))] },
        { dst := some 2, op := .callP (.lit (.fn (I 81) [])) [(.slot 1)] false false },
        { dst := none, op := .storeA 7 (.slot 0) (.slot 2) }])
     (.ret))
  res := [.cell 0 7 true]
  keepOwn := false

/-- lispprover/object.Cons -/
def F99 (I J : Nat → Nat) : AFunc where
  code := .seq (.reg false [
       { dst := some 2, op := .box (.slot 0) },
       { dst := some 3, op := .box (.slot 1) },
       { dst := some 4, op := .alloc [.int .i64 0, .str [], .str [], .str [], .str [], .str [], .slice []] }])
    (.seq (.reg false [
        { dst := some 5, op := .loadA 7 (.slot 2) },
        { dst := some 6, op := .loadA 7 (.slot 3) },
        { dst := some 7, op := .lits false 7 [(.slot 5), (.slot 6)] },
        { dst := some 8, op := .build [.int .i64 0, .str [], .str [], .str [], .str [], .str [], .slice []] [(0, 1, (.lit (.int .i64 4))), (6, 1, (.slot 7))] },
        { dst := none, op := .storeA 7 (.slot 4) (.slot 8) }])
     (.ret))
  res := [.cell 4 7 true]
  keepOwn := false

def F110_0 (I J : Nat → Nat) : AC :=
  .seq (.seq (.reg false [
        { dst := some 5, op := .mv (.slot 1) },
        { dst := some 6, op := .bin .gtr (.slot 5) (.lit (.int .i64 0)) },
        { dst := some 7, op := .mv (.slot 6) },
        { dst := some 8, op := .faddr 6 (.slot 2), guard := some (7, true) },
        { dst := some 9, op := .load1 (.slot 8), guard := some (7, true) },
        { dst := some 10, op := .lenL (.slot 9), guard := some (7, true) },
        { dst := some 11, op := .bin .eql (.slot 10) (.lit (.int .i64 2)), guard := some (7, true) },
        { dst := some 12, op := .pick (.slot 7) (.slot 11) (.lit (.bool false)) }])
     (.cond (.slot 12)
      (.skip)
      (.exit 0)))
    (.block 1 (.seq (.reg false [
         { dst := some 13, op := .faddr 6 (.slot 2) },
         { dst := some 14, op := .load1 (.slot 13) },
         { dst := some 15, op := .iaddr 7 (.slot 14) (.lit (.int .i64 0)) },
         { dst := some 16, op := .loadA 7 (.slot 15) },
         { dst := some 17, op := .mv (.slot 1) },
         { dst := some 18, op := .bin .sub (.slot 17) (.lit (.int .i64 1)) },
         { dst := some 19, op := .callP (.lit (.fn (I 110) [])) [(.slot 16), (.slot 18)] false false },
         { dst := some 1, op := .mv (.slot 19) }])
      (.reg false [
         { dst := some 20, op := .faddr 6 (.slot 2) },
         { dst := some 21, op := .load1 (.slot 20) },
         { dst := some 22, op := .iaddr 7 (.slot 21) (.lit (.int .i64 1)) },
         { dst := some 23, op := .loadA 7 (.slot 22) },
         { dst := none, op := .storeA 7 (.slot 2) (.slot 23) }])))
/-- lispprover/object.rest -/
def F110 (I J : Nat → Nat) : AFunc where
  code := .seq (.reg false [
       { dst := some 2, op := .box (.slot 0) },
       { dst := some 4, op := .mv (.lit (.int .i64 0)) }])
    (.seq (.block 0 (.loop [1, 2] [2] (F110_0 I J)))
     (.seq (.reg false [
         { dst := some 24, op := .mv (.slot 1) },
         { dst := some 25, op := .bin .sub (.slot 24) (.lit (.int .i64 1)) },
         { dst := some 4, op := .mv (.slot 25) }])
      (.ret)))
  res := [.tmp 4]
  keepOwn := false

/-- lispprover/object.bare -/
def F111 (I J : Nat → Nat) : AFunc where
  code := .seq (.reg false [
       { dst := some 4, op := .box (.slot 0) },
       { dst := some 8, op := .mv (.lit (.bool false)) }])
    (.seq (.reg false [
        { dst := some 9, op := .mv (.slot 1) },
        { dst := some 10, op := .mv (.slot 9) },
        { dst := some 11, op := .faddr 1 (.slot 4), guard := some (10, false) },
        { dst := some 12, op := .load1 (.slot 11), guard := some (10, false) },
        { dst := some 13, op := .bin .eql (.slot 12) (.lit (.str [])), guard := some (10, false) },
        { dst := some 14, op := .mv (.slot 13), guard := some (10, false) },
        { dst := some 15, op := .faddr 2 (.slot 4), guard := some (14, true) },
        { dst := some 16, op := .load1 (.slot 15), guard := some (14, true) },
        { dst := some 17, op := .bin .eql (.slot 16) (.lit (.str [])), guard := some (14, true) },
        { dst := some 18, op := .pick (.slot 14) (.slot 17) (.lit (.bool false)), guard := some (10, false) },
        { dst := some 19, op := .pick (.slot 10) (.lit (.bool true)) (.slot 18) },
        { dst := some 20, op := .mv (.slot 19) },
        { dst := some 21, op := .mv (.slot 2), guard := some (20, true) },
        { dst := some 22, op := .mv (.slot 21), guard := some (20, true) },
        { dst := some 23, op := .faddr 3 (.slot 4), guard := some (22, false) },
        { dst := some 24, op := .loadA 2 (.slot 23), guard := some (22, false) },
        { dst := some 25, op := .build [.str [], .str []] [], guard := some (22, false) },
        { dst := some 26, op := .eqA false [0, 0] (.slot 24) (.slot 25), guard := some (22, false) },
        { dst := some 27, op := .pick (.slot 22) (.lit (.bool true)) (.slot 26), guard := some (20, true) },
        { dst := some 28, op := .pick (.slot 20) (.slot 27) (.lit (.bool false)) },
        { dst := some 29, op := .mv (.slot 28) },
        { dst := some 30, op := .mv (.slot 3), guard := some (29, true) },
        { dst := some 31, op := .mv (.slot 30), guard := some (29, true) },
        { dst := some 32, op := .faddr 5 (.slot 4), guard := some (31, false) },
        { dst := some 33, op := .load1 (.slot 32), guard := some (31, false) },
        { dst := some 34, op := .bin .eql (.slot 33) (.lit (.str [])), guard := some (31, false) },
        { dst := some 35, op := .pick (.slot 31) (.lit (.bool true)) (.slot 34), guard := some (29, true) },
        { dst := some 36, op := .pick (.slot 29) (.slot 35) (.lit (.bool false)) },
        { dst := some 8, op := .mv (.slot 36) }])
     (.ret))
  res := [.tmp 8]
  keepOwn := false

/-- lispprover/object.lowest -/
def F112 (I J : Nat → Nat) : AFunc where
  code := .seq (.reg false [
       { dst := some 4, op := .mv (.lit (.bool false)) }])
    (.seq (.seq (.reg false [
         { dst := some 7, op := .mv (.slot 0) },
         { dst := some 8, op := .callP (.lit (.fn (I 130) [])) [(.slot 7)] false false },
         { dst := some 9, op := .un .not (.slot 8) },
         { dst := some 10, op := .mv (.slot 9) },
         { dst := some 11, op := .mv (.slot 1), guard := some (10, false) },
         { dst := some 12, op := .callP (.lit (.fn (I 130) [])) [(.slot 11)] false false, guard := some (10, false) },
         { dst := some 13, op := .un .not (.slot 12), guard := some (10, false) },
         { dst := some 14, op := .pick (.slot 10) (.lit (.bool true)) (.slot 13) },
         { dst := some 15, op := .mv (.slot 14) },
         { dst := some 16, op := .mv (.slot 0), guard := some (15, false) },
         { dst := some 17, op := .callP (.lit (.fn (I 131) [])) [(.slot 16)] false false, guard := some (15, false) },
         { dst := some 18, op := .bin .gtr (.slot 17) (.lit (.int .i64 100)), guard := some (15, false) },
         { dst := some 19, op := .pick (.slot 15) (.lit (.bool true)) (.slot 18) },
         { dst := some 20, op := .mv (.slot 19) },
         { dst := some 21, op := .mv (.slot 1), guard := some (20, false) },
         { dst := some 22, op := .callP (.lit (.fn (I 131) [])) [(.slot 21)] false false, guard := some (20, false) },
         { dst := some 23, op := .bin .gtr (.slot 22) (.lit (.int .i64 100)), guard := some (20, false) },
         { dst := some 24, op := .pick (.slot 20) (.lit (.bool true)) (.slot 23) }])
      (.cond (.slot 24)
       (.seq (.reg false [
           { dst := some 4, op := .mv (.lit (.bool false)) }])
        (.ret))
       (.skip)))
     (.seq (.reg false [
         { dst := some 26, op := .mv (.slot 0) },
         { dst := some 27, op := .mv (.slot 1) },
         { dst := some 28, op := .callP (.lit (.fn (I 132) [])) [(.slot 26), (.slot 27)] false false },
         { dst := some 25, op := .mv (.take 28) },
         { dst := some 29, op := .extr 25 0 },
         { dst := some 30, op := .extr 25 1 },
         { dst := some 5, op := .mv (.slot 29) },
         { dst := some 6, op := .mv (.slot 30) }])
      (.seq (.reg false [
          { dst := some 31, op := .mv (.slot 5) },
          { dst := some 32, op := .mv (.slot 0) },
          { dst := some 33, op := .bin .eql (.slot 31) (.slot 32) },
          { dst := some 34, op := .mv (.slot 33) },
          { dst := some 35, op := .mv (.slot 6), guard := some (34, true) },
          { dst := some 36, op := .mv (.slot 1), guard := some (34, true) },
          { dst := some 37, op := .bin .eql (.slot 35) (.slot 36), guard := some (34, true) },
          { dst := some 38, op := .pick (.slot 34) (.slot 37) (.lit (.bool false)) },
          { dst := some 4, op := .mv (.slot 38) }])
       (.ret))))
  res := [.tmp 4]
  keepOwn := false

def F113_0 (I J : Nat → Nat) : AC :=
  .seq (.reg false [
       { dst := some 32, op := .bin .lss (.slot 31) (.slot 30) }])
    (.seq (.cond (.slot 32)
      (.skip)
      (.exit 0))
     (.seq (.block 1 (.seq (.reg false [
           { dst := some 33, op := .mv (.slot 31) },
           { dst := some 3, op := .mv (.slot 33) }])
        (.seq (.reg false [
            { dst := some 34, op := .faddr 0 (.slot 1) },
            { dst := some 35, op := .load1 (.slot 34) },
            { dst := some 36, op := .mv (.slot 3) },
            { dst := some 37, op := .idxS (.slot 35) (.slot 36) },
            { dst := some 4, op := .mv (.slot 37) }])
         (.seq (.reg false [
             { dst := some 38, op := .mv (.slot 4) },
             { dst := some 39, op := .bin .geq (.slot 38) (.lit (.int .u8 97)) },
             { dst := some 40, op := .mv (.slot 39) },
             { dst := some 41, op := .mv (.slot 4), guard := some (40, true) },
             { dst := some 42, op := .bin .leq (.slot 41) (.lit (.int .u8 122)), guard := some (40, true) },
             { dst := some 43, op := .pick (.slot 40) (.slot 42) (.lit (.bool false)) },
             { dst := some 5, op := .mv (.slot 43) }])
          (.seq (.reg false [
              { dst := some 44, op := .mv (.slot 5) },
              { dst := some 45, op := .un .not (.slot 44) },
              { dst := some 46, op := .mv (.slot 45) },
              { dst := some 47, op := .mv (.slot 3), guard := some (46, true) },
              { dst := some 48, op := .bin .eql (.slot 47) (.lit (.int .i64 0)), guard := some (46, true) },
              { dst := some 49, op := .mv (.slot 48), guard := some (46, true) },
              { dst := some 50, op := .mv (.slot 4), guard := some (49, false) },
              { dst := some 51, op := .bin .neq (.slot 50) (.lit (.int .u8 45)), guard := some (49, false) },
              { dst := some 52, op := .mv (.slot 51), guard := some (49, false) },
              { dst := some 53, op := .mv (.slot 4), guard := some (52, true) },
              { dst := some 54, op := .bin .lss (.slot 53) (.lit (.int .u8 48)), guard := some (52, true) },
              { dst := some 55, op := .mv (.slot 54), guard := some (52, true) },
              { dst := some 56, op := .mv (.slot 4), guard := some (55, false) },
              { dst := some 57, op := .bin .gtr (.slot 56) (.lit (.int .u8 57)), guard := some (55, false) },
              { dst := some 58, op := .pick (.slot 55) (.lit (.bool true)) (.slot 57), guard := some (52, true) },
              { dst := some 59, op := .pick (.slot 52) (.slot 58) (.lit (.bool false)), guard := some (49, false) },
              { dst := some 60, op := .pick (.slot 49) (.lit (.bool true)) (.slot 59), guard := some (46, true) },
              { dst := some 61, op := .pick (.slot 46) (.slot 60) (.lit (.bool false)) }])
           (.cond (.slot 61)
            (.seq (.reg false [
                { dst := some 2, op := .mv (.lit (.bool false)) }])
             (.ret))
            (.skip)))))))
      (.reg false [
         { dst := some 62, op := .bin .add (.slot 31) (.lit (.int .i64 1)) },
         { dst := some 31, op := .mv (.slot 62) }])))
/-- lispprover/object.symbol -/
def F113 (I J : Nat → Nat) : AFunc where
  code := .seq (.reg false [
       { dst := some 1, op := .box (.slot 0) },
       { dst := some 2, op := .mv (.lit (.bool false)) }])
    (.seq (.seq (.reg false [
         { dst := some 6, op := .faddr 0 (.slot 1) },
         { dst := some 7, op := .load1 (.slot 6) },
         { dst := some 8, op := .lenS (.slot 7) },
         { dst := some 9, op := .bin .lss (.slot 8) (.lit (.int .i64 1)) },
         { dst := some 10, op := .mv (.slot 9) },
         { dst := some 11, op := .faddr 0 (.slot 1), guard := some (10, false) },
         { dst := some 12, op := .load1 (.slot 11), guard := some (10, false) },
         { dst := some 13, op := .lenS (.slot 12), guard := some (10, false) },
         { dst := some 14, op := .bin .gtr (.slot 13) (.lit (.int .i64 40)), guard := some (10, false) },
         { dst := some 15, op := .pick (.slot 10) (.lit (.bool true)) (.slot 14) },
         { dst := some 16, op := .mv (.slot 15) },
         { dst := some 17, op := .faddr 1 (.slot 1), guard := some (16, false) },
         { dst := some 18, op := .load1 (.slot 17), guard := some (16, false) },
         { dst := some 19, op := .lenS (.slot 18), guard := some (16, false) },
         { dst := some 20, op := .bin .lss (.slot 19) (.lit (.int .i64 1)), guard := some (16, false) },
         { dst := some 21, op := .pick (.slot 16) (.lit (.bool true)) (.slot 20) },
         { dst := some 22, op := .mv (.slot 21) },
         { dst := some 23, op := .faddr 1 (.slot 1), guard := some (22, false) },
         { dst := some 24, op := .load1 (.slot 23), guard := some (22, false) },
         { dst := some 25, op := .lenS (.slot 24), guard := some (22, false) },
         { dst := some 26, op := .bin .gtr (.slot 25) (.lit (.int .i64 40)), guard := some (22, false) },
         { dst := some 27, op := .pick (.slot 22) (.lit (.bool true)) (.slot 26) }])
      (.cond (.slot 27)
       (.seq (.reg false [
           { dst := some 2, op := .mv (.lit (.bool false)) }])
        (.ret))
       (.skip)))
     (.seq (.seq (.reg false [
          { dst := some 28, op := .faddr 0 (.slot 1) },
          { dst := some 29, op := .load1 (.slot 28) },
          { dst := some 30, op := .lenS (.slot 29) },
          { dst := some 31, op := .mv (.lit (.int .i64 0)) }])
       (.block 0 (.loop [1, 30, 31] [1] (F113_0 I J))))
      (.seq (.reg false [
          { dst := some 2, op := .mv (.lit (.bool true)) }])
       (.ret))))
  res := [.tmp 2]
  keepOwn := false

/-- lispprover/object.cons -/
def F114 (I J : Nat → Nat) : AFunc where
  code := .seq (.reg false [
       { dst := some 1, op := .box (.slot 0) },
       { dst := some 2, op := .mv (.lit (.bool false)) }])
    (.seq (.reg false [
        { dst := some 3, op := .faddr 0 (.slot 1) },
        { dst := some 4, op := .load1 (.slot 3) },
        { dst := some 5, op := .bin .eql (.slot 4) (.lit (.int .i64 4)) },
        { dst := some 6, op := .mv (.slot 5) },
        { dst := some 7, op := .faddr 6 (.slot 1), guard := some (6, true) },
        { dst := some 8, op := .load1 (.slot 7), guard := some (6, true) },
        { dst := some 9, op := .lenL (.slot 8), guard := some (6, true) },
        { dst := some 10, op := .bin .eql (.slot 9) (.lit (.int .i64 2)), guard := some (6, true) },
        { dst := some 11, op := .pick (.slot 6) (.slot 10) (.lit (.bool false)) },
        { dst := some 2, op := .mv (.slot 11) }])
     (.ret))
  res := [.tmp 2]
  keepOwn := false

/-- lispprover/object.IsNil -/
def F115 (I J : Nat → Nat) : AFunc where
  code := .seq (.reg false [
       { dst := some 1, op := .box (.slot 0) },
       { dst := some 2, op := .mv (.lit (.bool false)) }])
    (.seq (.reg false [
        { dst := some 3, op := .faddr 0 (.slot 1) },
        { dst := some 4, op := .load1 (.slot 3) },
        { dst := some 5, op := .bin .eql (.slot 4) (.lit (.int .i64 2)) },
        { dst := some 6, op := .mv (.slot 5) },
        { dst := some 7, op := .faddr 3 (.slot 1), guard := some (6, true) },
        { dst := some 8, op := .loadA 2 (.slot 7), guard := some (6, true) },
        { dst := some 9, op := .build [.str [], .str []] [(0, 1, (.lit (.str [108, 105, 115, 112]))), (1, 1, (.lit (.str [110, 105, 108])))], guard := some (6, true) },
        { dst := some 10, op := .eqA false [0, 0] (.slot 8) (.slot 9), guard := some (6, true) },
        { dst := some 11, op := .pick (.slot 6) (.slot 10) (.lit (.bool false)) },
        { dst := some 2, op := .mv (.slot 11) }])
     (.ret))
  res := [.tmp 2]
  keepOwn := false

/-- lispprover/object.T -/
def F123 (I J : Nat → Nat) : AFunc where
  code := .seq (.reg false [
       { dst := some 0, op := .alloc [.int .i64 0, .str [], .str [], .str [], .str [], .str [], .slice []] }])
    (.seq (.reg false [
        { dst := some 1, op := .build [.str [], .str []] [(0, 1, (.lit (.str [108, 105, 115, 112]))), (1, 1, (.lit (.str [116])))] },
        { dst := some 2, op := .callP (.lit (.fn (I 81) [])) [(.slot 1)] false false },
        { dst := none, op := .storeA 7 (.slot 0) (.slot 2) }])
     (.ret))
  res := [.cell 0 7 true]
  keepOwn := false

end Go.Vs.C

namespace Go.Vs.C
open Go Go.Vs
set_option maxRecDepth 100000
set_option linter.unusedVariables false
/-- lispprover/symbol.Valid -/
def F102 (I J : Nat → Nat) : AFunc where
  code := .seq (.reg false [
       { dst := some 1, op := .box (.slot 0) },
       { dst := some 2, op := .mv (.lit (.bool false)) }])
    (.seq (.reg false [
        { dst := some 3, op := .loadA 2 (.slot 1) },
        { dst := some 4, op := .callP (.lit (.fn (I 81) [])) [(.slot 3)] false false },
        { dst := some 5, op := .callP (.lit (.fn (I 77) [])) [(.slot 4)] false false },
        { dst := some 2, op := .mv (.slot 5) }])
     (.ret))
  res := [.tmp 2]
  keepOwn := false

end Go.Vs.C

namespace Go.Vs.C
open Go Go.Vs
set_option maxRecDepth 100000
set_option linter.unusedVariables false
def F13_0 (I J : Nat → Nat) : AC :=
  .seq (.reg false [
       { dst := some 13, op := .bin .lss (.slot 12) (.slot 11) }])
    (.seq (.cond (.slot 13)
      (.skip)
      (.exit 0))
     (.seq (.block 1 (.seq (.reg false [
           { dst := some 14, op := .iaddr 13 (.slot 10) (.slot 12) },
           { dst := some 15, op := .loadA 13 (.slot 14) },
           { dst := some 6, op := .alloc [.str [], .str [], .int .i64 0, .str [], .str [], .int .i64 0, .str [], .str [], .str [], .str [], .str [], .slice [], .slice []] },
           { dst := none, op := .storeA 13 (.slot 6) (.slot 15) }])
        (.seq (.reg false [
            { dst := some 16, op := .faddr 0 (.slot 6) },
            { dst := some 17, op := .loadA 2 (.slot 16) },
            { dst := some 18, op := .faddr 1 (.slot 2) },
            { dst := some 19, op := .loadA 2 (.slot 18) },
            { dst := some 20, op := .eqA false [0, 0] (.slot 17) (.slot 19) }])
         (.cond (.slot 20)
          (.seq (.reg false [
              { dst := some 21, op := .faddr 2 (.slot 6) },
              { dst := some 22, op := .loadA 11 (.slot 21) },
              { dst := none, op := .storeA 11 (.slot 4) (.slot 22) }])
           (.ret))
          (.skip)))))
      (.reg false [
         { dst := some 23, op := .bin .add (.slot 12) (.lit (.int .i64 1)) },
         { dst := some 12, op := .mv (.slot 23) }])))
/-- lispprover/term.Substitute -/
def F13 (I J : Nat → Nat) : AFunc where
  code := .seq (.reg false [
       { dst := some 2, op := .box (.slot 0) },
       { dst := some 3, op := .box (.slot 1) },
       { dst := some 4, op := .alloc [.int .i64 0, .str [], .str [], .int .i64 0, .str [], .str [], .str [], .str [], .str [], .slice [], .slice []] }])
    (.seq (.seq (.reg false [
         { dst := some 7, op := .faddr 0 (.slot 2) },
         { dst := some 8, op := .load1 (.slot 7) },
         { dst := some 9, op := .bin .eql (.slot 8) (.lit (.int .i64 1)) }])
      (.cond (.slot 9)
       (.seq (.reg false [
           { dst := some 10, op := .load1 (.slot 3) },
           { dst := some 11, op := .lenL (.slot 10) },
           { dst := some 12, op := .mv (.lit (.int .i64 0)) }])
        (.block 0 (.loop [2, 3, 4, 10, 11, 12] [2, 3, 4] (F13_0 I J))))
       (.skip)))
     (.seq (.reg false [
         { dst := some 24, op := .loadA 11 (.slot 2) },
         { dst := some 25, op := .mkfn (I 52) [(.slot 3)] },
         { dst := some 26, op := .callS (.lit (.fn (I 53) [])) [(.slot 24), (.slot 25)] },
         { dst := none, op := .storeA 11 (.slot 4) (.slot 26) }])
      (.ret)))
  res := [.cell 4 11 true]
  keepOwn := false

/-- lispprover/term.Equal -/
def F16 (I J : Nat → Nat) : AFunc where
  code := .seq (.reg false [
       { dst := some 2, op := .box (.slot 0) },
       { dst := some 3, op := .box (.slot 1) },
       { dst := some 4, op := .mv (.lit (.bool false)) }])
    (.seq (.reg false [
        { dst := some 5, op := .faddr 0 (.slot 2) },
        { dst := some 6, op := .load1 (.slot 5) },
        { dst := some 7, op := .faddr 0 (.slot 3) },
        { dst := some 8, op := .load1 (.slot 7) },
        { dst := some 9, op := .bin .eql (.slot 6) (.slot 8) },
        { dst := some 10, op := .mv (.slot 9) },
        { dst := some 11, op := .faddr 1 (.slot 2), guard := some (10, true) },
        { dst := some 12, op := .loadA 2 (.slot 11), guard := some (10, true) },
        { dst := some 13, op := .faddr 1 (.slot 3), guard := some (10, true) },
        { dst := some 14, op := .loadA 2 (.slot 13), guard := some (10, true) },
        { dst := some 15, op := .eqA false [0, 0] (.slot 12) (.slot 14), guard := some (10, true) },
        { dst := some 16, op := .pick (.slot 10) (.slot 15) (.lit (.bool false)) },
        { dst := some 17, op := .mv (.slot 16) },
        { dst := some 18, op := .faddr 3 (.slot 2), guard := some (17, true) },
        { dst := some 19, op := .loadA 7 (.slot 18), guard := some (17, true) },
        { dst := some 20, op := .faddr 3 (.slot 3), guard := some (17, true) },
        { dst := some 21, op := .loadA 7 (.slot 20), guard := some (17, true) },
        { dst := some 22, op := .callP (.lit (.fn (I 57) [])) [(.slot 19), (.slot 21)] false false, guard := some (17, true) },
        { dst := some 23, op := .pick (.slot 17) (.slot 22) (.lit (.bool false)) },
        { dst := some 24, op := .mv (.slot 23) },
        { dst := some 25, op := .faddr 10 (.slot 2), guard := some (24, true) },
        { dst := some 26, op := .load1 (.slot 25), guard := some (24, true) },
        { dst := some 27, op := .faddr 10 (.slot 3), guard := some (24, true) },
        { dst := some 28, op := .load1 (.slot 27), guard := some (24, true) },
        { dst := some 29, op := .callS (.lit (.fn (I 58) [])) [(.slot 26), (.slot 28), (.lit (.fn (I 16) []))], guard := some (24, true) },
        { dst := some 30, op := .pick (.slot 24) (.slot 29) (.lit (.bool false)) },
        { dst := some 4, op := .mv (.slot 30) }])
     (.ret))
  res := [.tmp 4]
  keepOwn := false

/-- lispprover/term.Ground -/
def F17 (I J : Nat → Nat) : AFunc where
  code := .seq (.reg false [
       { dst := some 1, op := .box (.slot 0) },
       { dst := some 2, op := .mv (.lit (.bool false)) }])
    (.seq (.reg false [
        { dst := some 3, op := .loadA 11 (.slot 1) },
        { dst := some 4, op := .callS (.lit (.fn (I 59) [])) [(.slot 3), (.lit (.fn (I 60) []))] },
        { dst := some 2, op := .mv (.slot 4) }])
     (.ret))
  res := [.tmp 2]
  keepOwn := false

/-- lispprover/term.Variables -/
def F19 (I J : Nat → Nat) : AFunc where
  code := .seq (.reg false [
       { dst := some 2, op := .mv (.lit (.slice [])) }])
    (.seq (.reg false [
        { dst := some 3, op := .mv (.slot 0) },
        { dst := some 4, op := .callP (.lit (.fn (I 61) [])) [(.slot 3), (.lit (.int .i64 1))] false false },
        { dst := some 2, op := .mv (.slot 4) }])
     (.ret))
  res := [.tmp 2]
  keepOwn := false

/-- lispprover/term.Functions -/
def F22 (I J : Nat → Nat) : AFunc where
  code := .seq (.reg false [
       { dst := some 2, op := .mv (.lit (.slice [])) }])
    (.seq (.reg false [
        { dst := some 3, op := .mv (.slot 0) },
        { dst := some 4, op := .callP (.lit (.fn (I 61) [])) [(.slot 3), (.lit (.int .i64 3))] false false },
        { dst := some 2, op := .mv (.slot 4) }])
     (.ret))
  res := [.tmp 2]
  keepOwn := false

/-- lispprover/term.Var -/
def F25 (I J : Nat → Nat) : AFunc where
  code := .seq (.reg false [
       { dst := some 1, op := .box (.slot 0) },
       { dst := some 2, op := .alloc [.int .i64 0, .str [], .str [], .int .i64 0, .str [], .str [], .str [], .str [], .str [], .slice [], .slice []] }])
    (.seq (.reg false [
        { dst := some 3, op := .loadA 2 (.slot 1) },
        { dst := some 4, op := .build [.int .i64 0, .str [], .str [], .int .i64 0, .str [], .str [], .str [], .str [], .str [], .slice [], .slice []] [(0, 1, (.lit (.int .i64 1))), (1, 2, (.slot 3))] },
        { dst := none, op := .storeA 11 (.slot 2) (.slot 4) }])
     (.ret))
  res := [.cell 2 11 true]
  keepOwn := false

/-- lispprover/term.Const -/
def F27 (I J : Nat → Nat) : AFunc where
  code := .seq (.reg false [
       { dst := some 1, op := .box (.slot 0) },
       { dst := some 2, op := .alloc [.int .i64 0, .str [], .str [], .int .i64 0, .str [], .str [], .str [], .str [], .str [], .slice [], .slice []] }])
    (.seq (.reg false [
        { dst := some 3, op := .loadA 7 (.slot 1) },
        { dst := some 4, op := .build [.int .i64 0, .str [], .str [], .int .i64 0, .str [], .str [], .str [], .str [], .str [], .slice [], .slice []] [(0, 1, (.lit (.int .i64 2))), (3, 7, (.slot 3))] },
        { dst := none, op := .storeA 11 (.slot 2) (.slot 4) }])
     (.ret))
  res := [.cell 2 11 true]
  keepOwn := false

/-- lispprover/term.App -/
def F29 (I J : Nat → Nat) : AFunc where
  code := .seq (.reg false [
       { dst := some 2, op := .box (.slot 0) },
       { dst := some 4, op := .alloc [.int .i64 0, .str [], .str [], .int .i64 0, .str [], .str [], .str [], .str [], .str [], .slice [], .slice []] }])
    (.seq (.reg false [
        { dst := some 5, op := .loadA 2 (.slot 2) },
        { dst := some 6, op := .mv (.slot 1) },
        { dst := some 7, op := .build [.int .i64 0, .str [], .str [], .int .i64 0, .str [], .str [], .str [], .str [], .str [], .slice [], .slice []] [(0, 1, (.lit (.int .i64 3))), (1, 2, (.slot 5)), (10, 1, (.slot 6))] },
        { dst := none, op := .storeA 11 (.slot 4) (.slot 7) }])
     (.ret))
  res := [.cell 4 11 true]
  keepOwn := false

/-- lispprover/term.Lisp -/
def F31 (I J : Nat → Nat) : AFunc where
  code := .seq (.reg false [
       { dst := some 4, op := .alloc [.int .i64 0, .str [], .str [], .int .i64 0, .str [], .str [], .str [], .str [], .str [], .slice [], .slice []] }])
    (.seq (.reg false [
        { dst := some 5, op := .mv (.slot 0) },
        { dst := some 6, op := .build [.str [], .str []] [(0, 1, (.lit (.str [108, 105, 115, 112]))), (1, 1, (.slot 5))] },
        { dst := some 7, op := .mv (.slot 1) },
        { dst := some 8, op := .callP (.lit (.fn (I 29) [])) [(.slot 6), (.slot 7)] false false },
        { dst := none, op := .storeA 11 (.slot 4) (.slot 8) }])
     (.ret))
  res := [.cell 4 11 true]
  keepOwn := false

/-- lispprover/term.Replace -/
def F33 (I J : Nat → Nat) : AFunc where
  code := .seq (.reg false [
       { dst := some 3, op := .box (.slot 0) },
       { dst := some 4, op := .box (.slot 1) },
       { dst := some 5, op := .box (.slot 2) },
       { dst := some 6, op := .alloc [.int .i64 0, .str [], .str [], .int .i64 0, .str [], .str [], .str [], .str [], .str [], .slice [], .slice []] }])
    (.seq (.seq (.reg false [
         { dst := some 7, op := .loadA 11 (.slot 3) },
         { dst := some 8, op := .loadA 11 (.slot 4) },
         { dst := some 9, op := .callP (.lit (.fn (I 16) [])) [(.slot 7), (.slot 8)] false false }])
      (.cond (.slot 9)
       (.seq (.reg false [
           { dst := some 10, op := .loadA 11 (.slot 5) },
           { dst := none, op := .storeA 11 (.slot 6) (.slot 10) }])
        (.ret))
       (.skip)))
     (.seq (.reg false [
         { dst := some 11, op := .loadA 11 (.slot 3) },
         { dst := some 12, op := .mkfn (I 74) [(.slot 4), (.slot 5)] },
         { dst := some 13, op := .callS (.lit (.fn (I 53) [])) [(.slot 11), (.slot 12)] },
         { dst := none, op := .storeA 11 (.slot 6) (.slot 13) }])
      (.ret)))
  res := [.cell 6 11 true]
  keepOwn := false

/-- lispprover/term.Occurs -/
def F34 (I J : Nat → Nat) : AFunc where
  code := .seq (.reg false [
       { dst := some 2, op := .box (.slot 0) },
       { dst := some 3, op := .box (.slot 1) },
       { dst := some 4, op := .mv (.lit (.bool false)) }])
    (.seq (.reg false [
        { dst := some 5, op := .loadA 11 (.slot 3) },
        { dst := some 6, op := .mkfn (I 75) [(.slot 2)] },
        { dst := some 7, op := .callS (.lit (.fn (I 59) [])) [(.slot 5), (.slot 6)] },
        { dst := some 8, op := .un .not (.slot 7) },
        { dst := some 4, op := .mv (.slot 8) }])
     (.ret))
  res := [.tmp 4]
  keepOwn := false

def F38_0 (I J : Nat → Nat) : AC :=
  .seq (.reg false [
       { dst := some 11, op := .bin .lss (.slot 10) (.slot 9) }])
    (.seq (.cond (.slot 11)
      (.skip)
      (.exit 0))
     (.seq (.block 1 (.seq (.reg false [
           { dst := some 12, op := .iaddr 1 (.slot 8) (.slot 10) },
           { dst := some 13, op := .load1 (.slot 12) },
           { dst := some 7, op := .mv (.slot 13) }])
        (.seq (.seq (.reg false [
             { dst := some 14, op := .faddr 0 (.slot 2) },
             { dst := some 15, op := .load1 (.slot 14) },
             { dst := some 16, op := .bin .neq (.slot 15) (.lit (.int .i64 3)) },
             { dst := some 17, op := .mv (.slot 16) },
             { dst := some 18, op := .mv (.slot 7), guard := some (17, false) },
             { dst := some 19, op := .bin .lss (.slot 18) (.lit (.int .i64 0)), guard := some (17, false) },
             { dst := some 20, op := .pick (.slot 17) (.lit (.bool true)) (.slot 19) },
             { dst := some 21, op := .mv (.slot 20) },
             { dst := some 22, op := .mv (.slot 7), guard := some (21, false) },
             { dst := some 23, op := .faddr 10 (.slot 2), guard := some (21, false) },
             { dst := some 24, op := .load1 (.slot 23), guard := some (21, false) },
             { dst := some 25, op := .lenL (.slot 24), guard := some (21, false) },
             { dst := some 26, op := .bin .geq (.slot 22) (.slot 25), guard := some (21, false) },
             { dst := some 27, op := .pick (.slot 21) (.lit (.bool true)) (.slot 26) }])
          (.cond (.slot 27)
           (.seq (.reg false [
               { dst := some 28, op := .build [.int .i64 0, .str [], .str [], .int .i64 0, .str [], .str [], .str [], .str [], .str [], .slice [], .slice []] [] },
               { dst := none, op := .storeA 11 (.slot 4) (.slot 28) },
               { dst := some 5, op := .mv (.lit (.bool false)) }])
            (.ret))
           (.skip)))
         (.reg false [
            { dst := some 29, op := .faddr 10 (.slot 2) },
            { dst := some 30, op := .load1 (.slot 29) },
            { dst := some 31, op := .mv (.slot 7) },
            { dst := some 32, op := .iaddr 11 (.slot 30) (.slot 31) },
            { dst := some 33, op := .loadA 11 (.slot 32) },
            { dst := none, op := .storeA 11 (.slot 2) (.slot 33) }]))))
      (.reg false [
         { dst := some 34, op := .bin .add (.slot 10) (.lit (.int .i64 1)) },
         { dst := some 10, op := .mv (.slot 34) }])))
/-- lispprover/term.At -/
def F38 (I J : Nat → Nat) : AFunc where
  code := .seq (.reg false [
       { dst := some 2, op := .box (.slot 0) },
       { dst := some 4, op := .alloc [.int .i64 0, .str [], .str [], .int .i64 0, .str [], .str [], .str [], .str [], .str [], .slice [], .slice []] },
       { dst := some 5, op := .mv (.lit (.bool false)) }])
    (.seq (.seq (.reg false [
         { dst := some 8, op := .mv (.slot 1) },
         { dst := some 9, op := .lenL (.slot 8) },
         { dst := some 10, op := .mv (.lit (.int .i64 0)) }])
      (.block 0 (.loop [2, 4, 8, 9, 10] [2, 4] (F38_0 I J))))
     (.seq (.reg false [
         { dst := some 35, op := .loadA 11 (.slot 2) },
         { dst := none, op := .storeA 11 (.slot 4) (.slot 35) },
         { dst := some 5, op := .mv (.lit (.bool true)) }])
      (.ret)))
  res := [.cell 4 11 true, .tmp 5]
  keepOwn := false

/-- lispprover/term.Put -/
def F40 (I J : Nat → Nat) : AFunc where
  code := .seq (.reg false [
       { dst := some 3, op := .box (.slot 0) },
       { dst := some 5, op := .box (.slot 2) },
       { dst := some 6, op := .alloc [.int .i64 0, .str [], .str [], .int .i64 0, .str [], .str [], .str [], .str [], .str [], .slice [], .slice []] },
       { dst := some 7, op := .mv (.lit (.bool false)) }])
    (.seq (.seq (.reg false [
         { dst := some 11, op := .mv (.slot 1) },
         { dst := some 12, op := .lenL (.slot 11) },
         { dst := some 13, op := .bin .eql (.slot 12) (.lit (.int .i64 0)) }])
      (.cond (.slot 13)
       (.seq (.reg false [
           { dst := some 14, op := .loadA 11 (.slot 5) },
           { dst := none, op := .storeA 11 (.slot 6) (.slot 14) },
           { dst := some 7, op := .mv (.lit (.bool true)) }])
        (.ret))
       (.skip)))
     (.seq (.reg false [
         { dst := some 15, op := .mv (.slot 1) },
         { dst := some 16, op := .iaddr 1 (.slot 15) (.lit (.int .i64 0)) },
         { dst := some 17, op := .load1 (.slot 16) },
         { dst := some 8, op := .mv (.slot 17) }])
      (.seq (.seq (.reg false [
           { dst := some 18, op := .faddr 0 (.slot 3) },
           { dst := some 19, op := .load1 (.slot 18) },
           { dst := some 20, op := .bin .neq (.slot 19) (.lit (.int .i64 3)) },
           { dst := some 21, op := .mv (.slot 20) },
           { dst := some 22, op := .mv (.slot 8), guard := some (21, false) },
           { dst := some 23, op := .bin .lss (.slot 22) (.lit (.int .i64 0)), guard := some (21, false) },
           { dst := some 24, op := .pick (.slot 21) (.lit (.bool true)) (.slot 23) },
           { dst := some 25, op := .mv (.slot 24) },
           { dst := some 26, op := .mv (.slot 8), guard := some (25, false) },
           { dst := some 27, op := .faddr 10 (.slot 3), guard := some (25, false) },
           { dst := some 28, op := .load1 (.slot 27), guard := some (25, false) },
           { dst := some 29, op := .lenL (.slot 28), guard := some (25, false) },
           { dst := some 30, op := .bin .geq (.slot 26) (.slot 29), guard := some (25, false) },
           { dst := some 31, op := .pick (.slot 25) (.lit (.bool true)) (.slot 30) }])
        (.cond (.slot 31)
         (.seq (.reg false [
             { dst := some 32, op := .build [.int .i64 0, .str [], .str [], .int .i64 0, .str [], .str [], .str [], .str [], .str [], .slice [], .slice []] [] },
             { dst := none, op := .storeA 11 (.slot 6) (.slot 32) },
             { dst := some 7, op := .mv (.lit (.bool false)) }])
          (.ret))
         (.skip)))
       (.seq (.reg true [
           { dst := some 34, op := .faddr 10 (.slot 3) },
           { dst := some 35, op := .load1 (.slot 34) },
           { dst := some 36, op := .mv (.slot 8) },
           { dst := some 37, op := .iaddr 11 (.slot 35) (.slot 36) },
           { dst := some 38, op := .loadA 11 (.slot 37) },
           { dst := some 39, op := .mv (.slot 1) },
           { dst := some 40, op := .slcL 1 (.slot 39) (some (.lit (.int .i64 1))) none },
           { dst := some 41, op := .loadA 11 (.slot 5) },
           { dst := some 42, op := .callP (.lit (.fn (I 40) [])) [(.slot 38), (.slot 40), (.slot 41)] false false },
           { dst := some 33, op := .mv (.take 42) },
           { dst := some 43, op := .extr 33 0 },
           { dst := some 44, op := .extr 33 1 },
           { dst := some 9, op := .alloc [.int .i64 0, .str [], .str [], .int .i64 0, .str [], .str [], .str [], .str [], .str [], .slice [], .slice []] },
           { dst := none, op := .storeAN 11 (.slot 9) (.slot 43) },
           { dst := some 10, op := .mv (.slot 44) }])
        (.seq (.seq (.reg false [
             { dst := some 45, op := .mv (.slot 10) },
             { dst := some 46, op := .un .not (.slot 45) }])
          (.cond (.slot 46)
           (.seq (.reg false [
               { dst := some 47, op := .build [.int .i64 0, .str [], .str [], .int .i64 0, .str [], .str [], .str [], .str [], .str [], .slice [], .slice []] [] },
               { dst := none, op := .storeA 11 (.slot 6) (.slot 47) },
               { dst := some 7, op := .mv (.lit (.bool false)) }])
            (.ret))
           (.skip)))
         (.seq (.reg false [
             { dst := some 48, op := .faddr 10 (.slot 3) },
             { dst := some 49, op := .load1 (.slot 48) },
             { dst := some 50, op := .callP (.lit (.fn (I 76) [])) [(.slot 49)] true false },
             { dst := some 51, op := .faddr 10 (.slot 3) },
             { dst := none, op := .store1 (.slot 51) (.slot 50) }])
          (.seq (.reg false [
              { dst := some 52, op := .faddr 10 (.slot 3) },
              { dst := some 53, op := .load1 (.slot 52) },
              { dst := some 54, op := .mv (.slot 8) },
              { dst := some 55, op := .loadA 11 (.slot 9) },
              { dst := some 56, op := .iaddr 11 (.slot 53) (.slot 54) },
              { dst := none, op := .storeA 11 (.slot 56) (.slot 55) }])
           (.seq (.reg false [
               { dst := some 57, op := .ldF 50 11 (.slot 3) },
               { dst := none, op := .storeA 11 (.slot 6) (.slot 57) },
               { dst := some 7, op := .mv (.lit (.bool true)) }])
            (.ret)))))))))
  res := [.cell 6 11 true, .tmp 7]
  keepOwn := false

/-- lispprover/term.Unquote -/
def F42 (I J : Nat → Nat) : AFunc where
  code := .seq (.reg false [
       { dst := some 1, op := .box (.slot 0) },
       { dst := some 2, op := .alloc [.int .i64 0, .str [], .str [], .int .i64 0, .str [], .str [], .str [], .str [], .str [], .slice [], .slice []] },
       { dst := some 3, op := .mv (.lit (.bool false)) }])
    (.seq (.seq (.reg false [
         { dst := some 6, op := .loadA 7 (.slot 1) },
         { dst := some 7, op := .callP (.lit (.fn (I 77) [])) [(.slot 6)] false false },
         { dst := some 8, op := .un .not (.slot 7) }])
      (.cond (.slot 8)
       (.seq (.reg false [
           { dst := some 9, op := .build [.int .i64 0, .str [], .str [], .int .i64 0, .str [], .str [], .str [], .str [], .str [], .slice [], .slice []] [] },
           { dst := none, op := .storeA 11 (.slot 2) (.slot 9) },
           { dst := some 3, op := .mv (.lit (.bool false)) }])
        (.ret))
       (.skip)))
     (.seq (.reg false [
         { dst := some 11, op := .loadA 7 (.slot 1) },
         { dst := some 12, op := .callP (.lit (.fn (I 78) [])) [(.slot 11)] false false },
         { dst := some 10, op := .mv (.take 12) },
         { dst := some 13, op := .extr 10 0 },
         { dst := some 14, op := .extr 10 1 },
         { dst := some 4, op := .alloc [.int .i64 0, .str [], .str [], .int .i64 0, .str [], .str [], .str [], .str [], .str [], .slice [], .slice []] },
         { dst := none, op := .storeA 11 (.slot 4) (.slot 13) },
         { dst := some 5, op := .mv (.slot 14) }])
      (.seq (.seq (.reg false [
           { dst := some 15, op := .mv (.slot 5) },
           { dst := some 16, op := .un .not (.slot 15) },
           { dst := some 17, op := .mv (.slot 16) },
           { dst := some 18, op := .loadA 11 (.slot 4), guard := some (17, false) },
           { dst := some 19, op := .callP (.lit (.fn (I 49) [])) [(.slot 18)] false false, guard := some (17, false) },
           { dst := some 20, op := .un .not (.slot 19), guard := some (17, false) },
           { dst := some 21, op := .pick (.slot 17) (.lit (.bool true)) (.slot 20) }])
        (.cond (.slot 21)
         (.seq (.reg false [
             { dst := some 22, op := .build [.int .i64 0, .str [], .str [], .int .i64 0, .str [], .str [], .str [], .str [], .str [], .slice [], .slice []] [] },
             { dst := none, op := .storeA 11 (.slot 2) (.slot 22) },
             { dst := some 3, op := .mv (.lit (.bool false)) }])
          (.ret))
         (.skip)))
       (.seq (.reg false [
           { dst := some 23, op := .loadA 11 (.slot 4) },
           { dst := none, op := .storeA 11 (.slot 2) (.slot 23) },
           { dst := some 3, op := .mv (.lit (.bool true)) }])
        (.ret)))))
  res := [.cell 2 11 true, .tmp 3]
  keepOwn := false

def F44_0 (I J : Nat → Nat) : AC :=
  .seq (.reg false [
       { dst := some 29, op := .bin .lss (.slot 28) (.slot 27) }])
    (.seq (.cond (.slot 29)
      (.skip)
      (.exit 1))
     (.seq (.block 2 (.seq (.reg false [
           { dst := some 30, op := .iaddr 11 (.slot 26) (.slot 28) },
           { dst := some 31, op := .loadA 11 (.slot 30) },
           { dst := some 5, op := .alloc [.int .i64 0, .str [], .str [], .int .i64 0, .str [], .str [], .str [], .str [], .str [], .slice [], .slice []] },
           { dst := none, op := .storeA 11 (.slot 5) (.slot 31) }])
        (.reg false [
           { dst := some 32, op := .mv (.take 3) },
           { dst := some 33, op := .loadA 11 (.slot 5) },
           { dst := some 34, op := .callP (.lit (.fn (I 44) [])) [(.slot 33)] false false },
           { dst := some 35, op := .lits false 7 [(.slot 34)] },
           { dst := some 36, op := .app false false 7 (.take 32) (.slot 35) },
           { dst := some 3, op := .mv (.take 36) }])))
      (.reg false [
         { dst := some 37, op := .bin .add (.slot 28) (.lit (.int .i64 1)) },
         { dst := some 28, op := .mv (.slot 37) }])))
/-- lispprover/term.Quote -/
def F44 (I J : Nat → Nat) : AFunc where
  code := .seq (.reg false [
       { dst := some 1, op := .box (.slot 0) },
       { dst := some 2, op := .alloc [.int .i64 0, .str [], .str [], .str [], .str [], .str [], .slice []] }])
    (.seq (.seq (.reg false [
         { dst := some 6, op := .faddr 0 (.slot 1) },
         { dst := some 7, op := .load1 (.slot 6) }])
      (.block 0 (.seq (.reg false [
           { dst := some 9, op := .bin .eql (.slot 7) (.lit (.int .i64 1)) },
           { dst := some 8, op := .mv (.slot 9) }])
        (.cond (.slot 8)
         (.seq (.reg false [
             { dst := some 10, op := .faddr 1 (.slot 1) },
             { dst := some 11, op := .loadA 2 (.slot 10) },
             { dst := some 12, op := .callP (.lit (.fn (I 81) [])) [(.slot 11)] false false },
             { dst := none, op := .storeA 7 (.slot 2) (.slot 12) }])
          (.ret))
         (.seq (.reg false [
             { dst := some 14, op := .bin .eql (.slot 7) (.lit (.int .i64 2)) },
             { dst := some 13, op := .mv (.slot 14) }])
          (.cond (.slot 13)
           (.seq (.reg true [
               { dst := some 15, op := .callP (.lit (.fn (I 82) [])) [] false false },
               { dst := some 16, op := .callP (.lit (.fn (I 81) [])) [(.slot 15)] false false },
               { dst := some 17, op := .faddr 3 (.slot 1) },
               { dst := some 18, op := .ldL 1 (some 7) (.slot 17) },
               { dst := some 19, op := .lits false 7 [(.slot 16), (.slot 18)] },
               { dst := some 20, op := .callP (.lit (.fn (I 83) [])) [(.slot 19)] false false },
               { dst := none, op := .stL 2 (some 7) (.slot 2) (.slot 20) }])
            (.ret))
           (.skip)))))))
     (.seq (.reg false [
         { dst := some 21, op := .faddr 1 (.slot 1) },
         { dst := some 22, op := .loadA 2 (.slot 21) },
         { dst := some 23, op := .callP (.lit (.fn (I 81) [])) [(.slot 22)] false false },
         { dst := some 24, op := .lits false 7 [(.slot 23)] },
         { dst := some 3, op := .mv (.take 24) }])
      (.seq (.seq (.reg false [
           { dst := some 25, op := .faddr 10 (.slot 1) },
           { dst := some 26, op := .load1 (.slot 25) },
           { dst := some 27, op := .lenL (.slot 26) },
           { dst := some 28, op := .mv (.lit (.int .i64 0)) }])
        (.block 1 (.loop [2, 3, 26, 27, 28] [1, 2] (F44_0 I J))))
       (.seq (.reg false [
           { dst := some 38, op := .mv (.slot 3) },
           { dst := some 39, op := .callP (.lit (.fn (I 83) [])) [(.slot 38)] false false },
           { dst := none, op := .storeA 7 (.slot 2) (.slot 39) }])
        (.ret)))))
  res := [.cell 2 7 true]
  keepOwn := false

/-- lispprover/term.Valid -/
def F49 (I J : Nat → Nat) : AFunc where
  code := .seq (.reg false [
       { dst := some 1, op := .box (.slot 0) },
       { dst := some 2, op := .mv (.lit (.bool false)) }])
    (.seq (.reg false [
        { dst := some 3, op := .loadA 11 (.slot 1) },
        { dst := some 4, op := .callP (.lit (.fn (I 50) [])) [(.slot 3)] false false },
        { dst := some 5, op := .bin .leq (.slot 4) (.lit (.int .i64 3000)) },
        { dst := some 6, op := .mv (.slot 5) },
        { dst := some 7, op := .loadA 11 (.slot 1), guard := some (6, true) },
        { dst := some 8, op := .callP (.lit (.fn (I 84) [])) [(.slot 7)] false false, guard := some (6, true) },
        { dst := some 9, op := .bin .leq (.slot 8) (.lit (.int .i64 200)), guard := some (6, true) },
        { dst := some 10, op := .pick (.slot 6) (.slot 9) (.lit (.bool false)) },
        { dst := some 11, op := .mv (.slot 10) },
        { dst := some 12, op := .loadA 11 (.slot 1), guard := some (11, true) },
        { dst := some 13, op := .callP (.lit (.fn (I 85) [])) [(.slot 12)] false false, guard := some (11, true) },
        { dst := some 14, op := .pick (.slot 11) (.slot 13) (.lit (.bool false)) },
        { dst := some 2, op := .mv (.slot 14) }])
     (.ret))
  res := [.tmp 2]
  keepOwn := false

/-- lispprover/term.Nodes -/
def F50 (I J : Nat → Nat) : AFunc where
  code := .seq (.reg false [
       { dst := some 1, op := .box (.slot 0) },
       { dst := some 2, op := .mv (.lit (.int .i64 0)) }])
    (.seq (.reg false [
        { dst := some 3, op := .loadA 11 (.slot 1) },
        { dst := some 4, op := .callP (.lit (.fn (I 86) [])) [(.slot 3), (.lit (.int .i64 3001))] false false },
        { dst := some 5, op := .mx (.lit (.int .i64 0)) (.slot 4) },
        { dst := some 6, op := .bin .sub (.lit (.int .i64 3001)) (.slot 5) },
        { dst := some 2, op := .mv (.slot 6) }])
     (.ret))
  res := [.tmp 2]
  keepOwn := false

/-- lispprover/term.Substitute$1 -/
def F52 (I J : Nat → Nat) : AFunc where
  code := .seq (.reg false [
       { dst := some 2, op := .box (.slot 0) },
       { dst := some 3, op := .alloc [.int .i64 0, .str [], .str [], .int .i64 0, .str [], .str [], .str [], .str [], .str [], .slice [], .slice []] }])
    (.seq (.reg false [
        { dst := some 4, op := .loadA 11 (.slot 2) },
        { dst := some 5, op := .load1 (.slot 1) },
        { dst := some 6, op := .callP (.lit (.fn (I 13) [])) [(.slot 4), (.slot 5)] false false },
        { dst := none, op := .storeA 11 (.slot 3) (.slot 6) }])
     (.ret))
  res := [.cell 3 11 true]
  keepOwn := false

def F53_0 (I J : Nat → Nat) : AC :=
  .seq (.reg false [
       { dst := some 20, op := .bin .lss (.slot 19) (.slot 18) }])
    (.seq (.cond (.slot 20)
      (.skip)
      (.exit 0))
     (.seq (.block 1 (.seq (.reg false [
           { dst := some 21, op := .mv (.slot 19) },
           { dst := some 22, op := .iaddr 11 (.slot 17) (.slot 19) },
           { dst := some 23, op := .loadA 11 (.slot 22) },
           { dst := some 7, op := .alloc [.int .i64 0, .str [], .str [], .int .i64 0, .str [], .str [], .str [], .str [], .str [], .slice [], .slice []] },
           { dst := some 6, op := .mv (.slot 21) },
           { dst := none, op := .storeA 11 (.slot 7) (.slot 23) }])
        (.reg false [
           { dst := some 24, op := .mv (.slot 5) },
           { dst := some 25, op := .mv (.slot 6) },
           { dst := some 26, op := .mv (.slot 1) },
           { dst := some 27, op := .loadA 11 (.slot 7) },
           { dst := some 28, op := .callS (.slot 26) [(.slot 27)] },
           { dst := some 29, op := .iaddr 11 (.slot 24) (.slot 25) },
           { dst := none, op := .storeA 11 (.slot 29) (.slot 28) }])))
      (.reg false [
         { dst := some 30, op := .bin .add (.slot 19) (.lit (.int .i64 1)) },
         { dst := some 19, op := .mv (.slot 30) }])))
/-- lispprover/term.with -/
def F53 (I J : Nat → Nat) : AFunc where
  code := .seq (.reg false [
       { dst := some 2, op := .box (.slot 0) },
       { dst := some 4, op := .alloc [.int .i64 0, .str [], .str [], .int .i64 0, .str [], .str [], .str [], .str [], .str [], .slice [], .slice []] }])
    (.seq (.seq (.reg false [
         { dst := some 8, op := .faddr 0 (.slot 2) },
         { dst := some 9, op := .load1 (.slot 8) },
         { dst := some 10, op := .bin .neq (.slot 9) (.lit (.int .i64 3)) }])
      (.cond (.slot 10)
       (.seq (.reg false [
           { dst := some 11, op := .loadA 11 (.slot 2) },
           { dst := none, op := .storeA 11 (.slot 4) (.slot 11) }])
        (.ret))
       (.skip)))
     (.seq (.reg false [
         { dst := some 12, op := .faddr 10 (.slot 2) },
         { dst := some 13, op := .load1 (.slot 12) },
         { dst := some 14, op := .lenL (.slot 13) },
         { dst := some 15, op := .mks true false 11 (.agg [.int .i64 0, .str [], .str [], .int .i64 0, .str [], .str [], .str [], .str [], .str [], .slice [], .slice []]) (.slot 14) (.slot 14) },
         { dst := some 5, op := .mv (.slot 15) }])
      (.seq (.seq (.reg false [
           { dst := some 16, op := .faddr 10 (.slot 2) },
           { dst := some 17, op := .load1 (.slot 16) },
           { dst := some 18, op := .lenL (.slot 17) },
           { dst := some 19, op := .mv (.lit (.int .i64 0)) }])
        (.block 0 (.loop [1, 2, 4, 5, 17, 18, 19] [2, 4, 5, 15] (F53_0 I J))))
       (.seq (.reg false [
           { dst := some 31, op := .frz 15 (.slot 5) },
           { dst := some 32, op := .faddr 10 (.slot 2) },
           { dst := none, op := .store1 (.slot 32) (.slot 31) }])
        (.seq (.reg false [
            { dst := some 33, op := .loadA 11 (.slot 2) },
            { dst := none, op := .storeA 11 (.slot 4) (.slot 33) }])
         (.ret))))))
  res := [.cell 4 11 true]
  keepOwn := false

def F59_0 (I J : Nat → Nat) : AC :=
  .seq (.reg false [
       { dst := some 18, op := .bin .lss (.slot 17) (.slot 16) }])
    (.seq (.cond (.slot 18)
      (.skip)
      (.exit 0))
     (.seq (.block 1 (.seq (.reg false [
           { dst := some 19, op := .iaddr 11 (.slot 15) (.slot 17) },
           { dst := some 20, op := .loadA 11 (.slot 19) },
           { dst := some 6, op := .alloc [.int .i64 0, .str [], .str [], .int .i64 0, .str [], .str [], .str [], .str [], .str [], .slice [], .slice []] },
           { dst := none, op := .storeA 11 (.slot 6) (.slot 20) }])
        (.seq (.reg false [
            { dst := some 21, op := .loadA 11 (.slot 6) },
            { dst := some 22, op := .mv (.slot 1) },
            { dst := some 23, op := .callS (.lit (.fn (I 59) [])) [(.slot 21), (.slot 22)] },
            { dst := some 24, op := .un .not (.slot 23) }])
         (.cond (.slot 24)
          (.seq (.reg false [
              { dst := some 4, op := .mv (.lit (.bool false)) }])
           (.ret))
          (.skip)))))
      (.reg false [
         { dst := some 25, op := .bin .add (.slot 17) (.lit (.int .i64 1)) },
         { dst := some 17, op := .mv (.slot 25) }])))
/-- lispprover/term.walk -/
def F59 (I J : Nat → Nat) : AFunc where
  code := .seq (.reg false [
       { dst := some 2, op := .box (.slot 0) },
       { dst := some 4, op := .mv (.lit (.bool false)) }])
    (.seq (.seq (.reg false [
         { dst := some 7, op := .mv (.slot 1) },
         { dst := some 8, op := .loadA 11 (.slot 2) },
         { dst := some 9, op := .callS (.slot 7) [(.slot 8)] },
         { dst := some 10, op := .un .not (.slot 9) }])
      (.cond (.slot 10)
       (.seq (.reg false [
           { dst := some 4, op := .mv (.lit (.bool false)) }])
        (.ret))
       (.skip)))
     (.seq (.seq (.reg false [
          { dst := some 11, op := .faddr 0 (.slot 2) },
          { dst := some 12, op := .load1 (.slot 11) },
          { dst := some 13, op := .bin .eql (.slot 12) (.lit (.int .i64 3)) }])
       (.cond (.slot 13)
        (.seq (.reg false [
            { dst := some 14, op := .faddr 10 (.slot 2) },
            { dst := some 15, op := .load1 (.slot 14) },
            { dst := some 16, op := .lenL (.slot 15) },
            { dst := some 17, op := .mv (.lit (.int .i64 0)) }])
         (.block 0 (.loop [1, 15, 16, 17] [2] (F59_0 I J))))
        (.skip)))
      (.seq (.reg false [
          { dst := some 4, op := .mv (.lit (.bool true)) }])
       (.ret))))
  res := [.tmp 4]
  keepOwn := false

/-- lispprover/term.Ground$1 -/
def F60 (I J : Nat → Nat) : AFunc where
  code := .seq (.reg false [
       { dst := some 1, op := .box (.slot 0) },
       { dst := some 2, op := .mv (.lit (.bool false)) }])
    (.seq (.reg false [
        { dst := some 3, op := .faddr 0 (.slot 1) },
        { dst := some 4, op := .load1 (.slot 3) },
        { dst := some 5, op := .bin .neq (.slot 4) (.lit (.int .i64 1)) },
        { dst := some 2, op := .mv (.slot 5) }])
     (.ret))
  res := [.tmp 2]
  keepOwn := false

def F61_0 (I J : Nat → Nat) : AC :=
  .seq (.reg false [
       { dst := some 11, op := .bin .lss (.slot 10) (.slot 9) }])
    (.seq (.cond (.slot 11)
      (.skip)
      (.exit 0))
     (.seq (.block 1 (.seq (.reg false [
           { dst := some 12, op := .iaddr 11 (.slot 8) (.slot 10) },
           { dst := some 13, op := .loadA 11 (.slot 12) },
           { dst := some 7, op := .alloc [.int .i64 0, .str [], .str [], .int .i64 0, .str [], .str [], .str [], .str [], .str [], .slice [], .slice []] },
           { dst := none, op := .storeA 11 (.slot 7) (.slot 13) }])
        (.reg false [
           { dst := some 14, op := .loadA 11 (.slot 7) },
           { dst := some 15, op := .mkfn (I 87) [(.slot 3), (.slot 5)] },
           { dst := some 16, op := .callS (.lit (.fn (I 59) [])) [(.slot 14), (.slot 15)] }])))
      (.reg false [
         { dst := some 17, op := .bin .add (.slot 10) (.lit (.int .i64 1)) },
         { dst := some 10, op := .mv (.slot 17) }])))
/-- lispprover/term.collect -/
def F61 (I J : Nat → Nat) : AFunc where
  code := .seq (.reg false [
       { dst := some 3, op := .box (.slot 1) },
       { dst := some 4, op := .mv (.lit (.slice [])) }])
    (.seq (.reg false [
        { dst := some 5, op := .alloc [.onil] }])
     (.seq (.seq (.reg false [
          { dst := some 8, op := .mv (.slot 0) },
          { dst := some 9, op := .lenL (.slot 8) },
          { dst := some 10, op := .mv (.lit (.int .i64 0)) }])
       (.block 0 (.loop [3, 5, 8, 9, 10] [3, 5] (F61_0 I J))))
      (.seq (.reg false [
          { dst := some 18, op := .load1 (.slot 5) },
          { dst := some 4, op := .mv (.slot 18) }])
       (.ret))))
  res := [.tmp 4]
  keepOwn := false

/-- lispprover/term.Replace$1 -/
def F74 (I J : Nat → Nat) : AFunc where
  code := .seq (.reg false [
       { dst := some 3, op := .box (.slot 0) },
       { dst := some 4, op := .alloc [.int .i64 0, .str [], .str [], .int .i64 0, .str [], .str [], .str [], .str [], .str [], .slice [], .slice []] }])
    (.seq (.reg false [
        { dst := some 5, op := .loadA 11 (.slot 3) },
        { dst := some 6, op := .loadA 11 (.slot 1) },
        { dst := some 7, op := .loadA 11 (.slot 2) },
        { dst := some 8, op := .callP (.lit (.fn (I 33) [])) [(.slot 5), (.slot 6), (.slot 7)] false false },
        { dst := none, op := .storeA 11 (.slot 4) (.slot 8) }])
     (.ret))
  res := [.cell 4 11 true]
  keepOwn := false

/-- lispprover/term.Occurs$1 -/
def F75 (I J : Nat → Nat) : AFunc where
  code := .seq (.reg false [
       { dst := some 2, op := .box (.slot 0) },
       { dst := some 3, op := .mv (.lit (.bool false)) }])
    (.seq (.reg false [
        { dst := some 4, op := .loadA 11 (.slot 2) },
        { dst := some 5, op := .loadA 11 (.slot 1) },
        { dst := some 6, op := .callP (.lit (.fn (I 16) [])) [(.slot 4), (.slot 5)] false false },
        { dst := some 7, op := .un .not (.slot 6) },
        { dst := some 3, op := .mv (.slot 7) }])
     (.ret))
  res := [.tmp 3]
  keepOwn := false

def F78_0 (I J : Nat → Nat) : AC :=
  .seq (.reg false [
       { dst := some 55, op := .bin .lss (.slot 54) (.slot 53) }])
    (.seq (.cond (.slot 55)
      (.skip)
      (.exit 0))
     (.seq (.block 1 (.seq (.reg false [
           { dst := some 56, op := .iaddr 7 (.slot 52) (.slot 54) },
           { dst := some 57, op := .loadA 7 (.slot 56) },
           { dst := some 8, op := .alloc [.int .i64 0, .str [], .str [], .str [], .str [], .str [], .slice []] },
           { dst := none, op := .storeA 7 (.slot 8) (.slot 57) }])
        (.seq (.reg false [
            { dst := some 59, op := .loadA 7 (.slot 8) },
            { dst := some 60, op := .callP (.lit (.fn (I 78) [])) [(.slot 59)] false false },
            { dst := some 58, op := .mv (.take 60) },
            { dst := some 61, op := .extr 58 0 },
            { dst := some 62, op := .extr 58 1 },
            { dst := some 9, op := .alloc [.int .i64 0, .str [], .str [], .int .i64 0, .str [], .str [], .str [], .str [], .str [], .slice [], .slice []] },
            { dst := none, op := .storeA 11 (.slot 9) (.slot 61) },
            { dst := some 10, op := .mv (.slot 62) }])
         (.seq (.seq (.reg false [
              { dst := some 63, op := .mv (.slot 10) },
              { dst := some 64, op := .un .not (.slot 63) }])
           (.cond (.slot 64)
            (.seq (.reg false [
                { dst := some 65, op := .build [.int .i64 0, .str [], .str [], .int .i64 0, .str [], .str [], .str [], .str [], .str [], .slice [], .slice []] [] },
                { dst := none, op := .storeA 11 (.slot 2) (.slot 65) },
                { dst := some 3, op := .mv (.lit (.bool false)) }])
             (.ret))
            (.skip)))
          (.reg false [
             { dst := some 66, op := .mv (.take 6) },
             { dst := some 67, op := .loadA 11 (.slot 9) },
             { dst := some 68, op := .lits false 11 [(.slot 67)] },
             { dst := some 69, op := .app false false 11 (.take 66) (.slot 68) },
             { dst := some 6, op := .mv (.take 69) }])))))
      (.reg false [
         { dst := some 70, op := .bin .add (.slot 54) (.lit (.int .i64 1)) },
         { dst := some 54, op := .mv (.slot 70) }])))
/-- lispprover/term.unquote -/
def F78 (I J : Nat → Nat) : AFunc where
  code := .seq (.reg false [
       { dst := some 1, op := .box (.slot 0) },
       { dst := some 2, op := .alloc [.int .i64 0, .str [], .str [], .int .i64 0, .str [], .str [], .str [], .str [], .str [], .slice [], .slice []] },
       { dst := some 3, op := .mv (.lit (.bool false)) }])
    (.seq (.seq (.reg false [
         { dst := some 11, op := .faddr 0 (.slot 1) },
         { dst := some 12, op := .load1 (.slot 11) },
         { dst := some 13, op := .bin .eql (.slot 12) (.lit (.int .i64 2)) }])
      (.cond (.slot 13)
       (.seq (.reg false [
           { dst := some 14, op := .faddr 3 (.slot 1) },
           { dst := some 15, op := .loadA 2 (.slot 14) },
           { dst := some 16, op := .callP (.lit (.fn (I 25) [])) [(.slot 15)] false false },
           { dst := none, op := .storeA 11 (.slot 2) (.slot 16) },
           { dst := some 3, op := .mv (.lit (.bool true)) }])
        (.ret))
       (.skip)))
     (.seq (.reg false [
         { dst := some 18, op := .loadA 7 (.slot 1) },
         { dst := some 19, op := .callP (.lit (.fn (I 93) [])) [(.slot 18)] false false },
         { dst := some 17, op := .mv (.take 19) },
         { dst := some 20, op := .extr 17 0 },
         { dst := some 21, op := .extr 17 1 },
         { dst := some 4, op := .mv (.slot 20) },
         { dst := some 5, op := .mv (.slot 21) }])
      (.seq (.seq (.reg false [
           { dst := some 22, op := .mv (.slot 5) },
           { dst := some 23, op := .un .not (.slot 22) },
           { dst := some 24, op := .mv (.slot 23) },
           { dst := some 25, op := .mv (.slot 4), guard := some (24, false) },
           { dst := some 26, op := .lenL (.slot 25), guard := some (24, false) },
           { dst := some 27, op := .bin .eql (.slot 26) (.lit (.int .i64 0)), guard := some (24, false) },
           { dst := some 28, op := .pick (.slot 24) (.lit (.bool true)) (.slot 27) },
           { dst := some 29, op := .mv (.slot 28) },
           { dst := some 30, op := .mv (.slot 4), guard := some (29, false) },
           { dst := some 31, op := .iaddr 7 (.slot 30) (.lit (.int .i64 0)), guard := some (29, false) },
           { dst := some 32, op := .faddr 0 (.slot 31), guard := some (29, false) },
           { dst := some 33, op := .load1 (.slot 32), guard := some (29, false) },
           { dst := some 34, op := .bin .neq (.slot 33) (.lit (.int .i64 2)), guard := some (29, false) },
           { dst := some 35, op := .pick (.slot 29) (.lit (.bool true)) (.slot 34) }])
        (.cond (.slot 35)
         (.seq (.reg false [
             { dst := some 36, op := .build [.int .i64 0, .str [], .str [], .int .i64 0, .str [], .str [], .str [], .str [], .str [], .slice [], .slice []] [] },
             { dst := none, op := .storeA 11 (.slot 2) (.slot 36) },
             { dst := some 3, op := .mv (.lit (.bool false)) }])
          (.ret))
         (.skip)))
       (.seq (.seq (.reg true [
            { dst := some 37, op := .mv (.slot 4) },
            { dst := some 38, op := .iaddr 7 (.slot 37) (.lit (.int .i64 0)) },
            { dst := some 39, op := .faddr 3 (.slot 38) },
            { dst := some 40, op := .loadA 2 (.slot 39) },
            { dst := some 41, op := .callP (.lit (.fn (I 82) [])) [] false false },
            { dst := some 42, op := .eqA false [0, 0] (.slot 40) (.slot 41) }])
         (.cond (.slot 42)
          (.seq (.seq (.reg false [
               { dst := some 43, op := .mv (.slot 4) },
               { dst := some 44, op := .lenL (.slot 43) },
               { dst := some 45, op := .bin .neq (.slot 44) (.lit (.int .i64 2)) }])
            (.cond (.slot 45)
             (.seq (.reg false [
                 { dst := some 46, op := .build [.int .i64 0, .str [], .str [], .int .i64 0, .str [], .str [], .str [], .str [], .str [], .slice [], .slice []] [] },
                 { dst := none, op := .storeA 11 (.slot 2) (.slot 46) },
                 { dst := some 3, op := .mv (.lit (.bool false)) }])
              (.ret))
             (.skip)))
           (.seq (.reg false [
               { dst := some 47, op := .mv (.slot 4) },
               { dst := some 48, op := .iaddr 7 (.slot 47) (.lit (.int .i64 1)) },
               { dst := some 49, op := .loadA 7 (.slot 48) },
               { dst := some 50, op := .callP (.lit (.fn (I 27) [])) [(.slot 49)] false false },
               { dst := none, op := .storeA 11 (.slot 2) (.slot 50) },
               { dst := some 3, op := .mv (.lit (.bool true)) }])
            (.ret)))
          (.skip)))
        (.seq (.reg false [
            { dst := some 6, op := .mv (.lit (.onil)) }])
         (.seq (.seq (.reg false [
              { dst := some 51, op := .mv (.slot 4) },
              { dst := some 52, op := .slcL 7 (.slot 51) (some (.lit (.int .i64 1))) none },
              { dst := some 53, op := .lenL (.slot 52) },
              { dst := some 54, op := .mv (.lit (.int .i64 0)) }])
           (.block 0 (.loop [2, 4, 6, 52, 53, 54] [1, 2] (F78_0 I J))))
          (.seq (.reg false [
              { dst := some 71, op := .mv (.slot 4) },
              { dst := some 72, op := .iaddr 7 (.slot 71) (.lit (.int .i64 0)) },
              { dst := some 73, op := .faddr 3 (.slot 72) },
              { dst := some 74, op := .loadA 2 (.slot 73) },
              { dst := some 75, op := .mv (.slot 6) },
              { dst := some 76, op := .callP (.lit (.fn (I 29) [])) [(.slot 74), (.slot 75)] false false },
              { dst := none, op := .storeA 11 (.slot 2) (.slot 76) },
              { dst := some 3, op := .mv (.lit (.bool true)) }])
           (.ret))))))))
  res := [.cell 2 11 true, .tmp 3]
  keepOwn := false

/-- lispprover/term.quote -/
def F82 (I J : Nat → Nat) : AFunc where
  code := .seq (.reg false [
       { dst := some 0, op := .alloc [.str [], .str []] }])
    (.seq (.reg false [
        { dst := some 1, op := .build [.str [], .str []] [(0, 1, (.lit (.str [108, 105, 115, 112]))), (1, 1, (.lit (.str [113, 117, 111, 116, 101])))] },
        { dst := none, op := .storeA 2 (.slot 0) (.slot 1) }])
     (.ret))
  res := [.cell 0 2 true]
  keepOwn := false

/-- lispprover/term.Depth -/
def F84 (I J : Nat → Nat) : AFunc where
  code := .seq (.reg false [
       { dst := some 1, op := .box (.slot 0) },
       { dst := some 2, op := .mv (.lit (.int .i64 0)) }])
    (.seq (.reg false [
        { dst := some 3, op := .loadA 11 (.slot 1) },
        { dst := some 4, op := .callP (.lit (.fn (I 100) [])) [(.slot 3), (.lit (.int .i64 201))] false false },
        { dst := some 2, op := .mv (.slot 4) }])
     (.ret))
  res := [.tmp 2]
  keepOwn := false

/-- lispprover/term.formed -/
def F85 (I J : Nat → Nat) : AFunc where
  code := .seq (.reg false [
       { dst := some 1, op := .box (.slot 0) },
       { dst := some 2, op := .mv (.lit (.bool false)) }])
    (.seq (.seq (.reg false [
         { dst := some 3, op := .faddr 0 (.slot 1) },
         { dst := some 4, op := .load1 (.slot 3) }])
      (.block 0 (.seq (.reg false [
           { dst := some 6, op := .bin .eql (.slot 4) (.lit (.int .i64 1)) },
           { dst := some 5, op := .mv (.slot 6) }])
        (.cond (.slot 5)
         (.seq (.reg false [
             { dst := some 7, op := .faddr 1 (.slot 1) },
             { dst := some 8, op := .loadA 2 (.slot 7) },
             { dst := some 9, op := .callP (.lit (.fn (I 101) [])) [(.slot 8)] false false },
             { dst := some 10, op := .mv (.slot 9) },
             { dst := some 11, op := .faddr 3 (.slot 1), guard := some (10, true) },
             { dst := some 12, op := .loadA 7 (.slot 11), guard := some (10, true) },
             { dst := some 13, op := .build [.int .i64 0, .str [], .str [], .str [], .str [], .str [], .slice []] [], guard := some (10, true) },
             { dst := some 14, op := .callP (.lit (.fn (I 57) [])) [(.slot 12), (.slot 13)] false false, guard := some (10, true) },
             { dst := some 15, op := .pick (.slot 10) (.slot 14) (.lit (.bool false)) },
             { dst := some 16, op := .mv (.slot 15) },
             { dst := some 17, op := .faddr 10 (.slot 1), guard := some (16, true) },
             { dst := some 18, op := .load1 (.slot 17), guard := some (16, true) },
             { dst := some 19, op := .lenL (.slot 18), guard := some (16, true) },
             { dst := some 20, op := .bin .eql (.slot 19) (.lit (.int .i64 0)), guard := some (16, true) },
             { dst := some 21, op := .pick (.slot 16) (.slot 20) (.lit (.bool false)) },
             { dst := some 2, op := .mv (.slot 21) }])
          (.ret))
         (.seq (.reg false [
             { dst := some 23, op := .bin .eql (.slot 4) (.lit (.int .i64 2)) },
             { dst := some 22, op := .mv (.slot 23) }])
          (.cond (.slot 22)
           (.seq (.reg false [
               { dst := some 24, op := .faddr 1 (.slot 1) },
               { dst := some 25, op := .loadA 2 (.slot 24) },
               { dst := some 26, op := .build [.str [], .str []] [] },
               { dst := some 27, op := .eqA false [0, 0] (.slot 25) (.slot 26) },
               { dst := some 28, op := .mv (.slot 27) },
               { dst := some 29, op := .faddr 3 (.slot 1), guard := some (28, true) },
               { dst := some 30, op := .loadA 7 (.slot 29), guard := some (28, true) },
               { dst := some 31, op := .callP (.lit (.fn (I 77) [])) [(.slot 30)] false false, guard := some (28, true) },
               { dst := some 32, op := .pick (.slot 28) (.slot 31) (.lit (.bool false)) },
               { dst := some 33, op := .mv (.slot 32) },
               { dst := some 34, op := .faddr 10 (.slot 1), guard := some (33, true) },
               { dst := some 35, op := .load1 (.slot 34), guard := some (33, true) },
               { dst := some 36, op := .lenL (.slot 35), guard := some (33, true) },
               { dst := some 37, op := .bin .eql (.slot 36) (.lit (.int .i64 0)), guard := some (33, true) },
               { dst := some 38, op := .pick (.slot 33) (.slot 37) (.lit (.bool false)) },
               { dst := some 2, op := .mv (.slot 38) }])
            (.ret))
           (.seq (.reg false [
               { dst := some 40, op := .bin .eql (.slot 4) (.lit (.int .i64 3)) },
               { dst := some 39, op := .mv (.slot 40) }])
            (.cond (.slot 39)
             (.seq (.seq (.reg false [
                  { dst := some 41, op := .faddr 1 (.slot 1) },
                  { dst := some 42, op := .loadA 2 (.slot 41) },
                  { dst := some 43, op := .callP (.lit (.fn (I 102) [])) [(.slot 42)] false false },
                  { dst := some 44, op := .un .not (.slot 43) },
                  { dst := some 45, op := .mv (.slot 44) },
                  { dst := some 46, op := .faddr 3 (.slot 1), guard := some (45, false) },
                  { dst := some 47, op := .loadA 7 (.slot 46), guard := some (45, false) },
                  { dst := some 48, op := .build [.int .i64 0, .str [], .str [], .str [], .str [], .str [], .slice []] [], guard := some (45, false) },
                  { dst := some 49, op := .callP (.lit (.fn (I 57) [])) [(.slot 47), (.slot 48)] false false, guard := some (45, false) },
                  { dst := some 50, op := .un .not (.slot 49), guard := some (45, false) },
                  { dst := some 51, op := .pick (.slot 45) (.lit (.bool true)) (.slot 50) },
                  { dst := some 52, op := .mv (.slot 51) },
                  { dst := some 53, op := .faddr 10 (.slot 1), guard := some (52, false) },
                  { dst := some 54, op := .load1 (.slot 53), guard := some (52, false) },
                  { dst := some 55, op := .lenL (.slot 54), guard := some (52, false) },
                  { dst := some 56, op := .bin .gtr (.slot 55) (.lit (.int .i64 8)), guard := some (52, false) },
                  { dst := some 57, op := .pick (.slot 52) (.lit (.bool true)) (.slot 56) }])
               (.cond (.slot 57)
                (.seq (.reg false [
                    { dst := some 2, op := .mv (.lit (.bool false)) }])
                 (.ret))
                (.skip)))
              (.seq (.reg false [
                  { dst := some 58, op := .faddr 10 (.slot 1) },
                  { dst := some 59, op := .load1 (.slot 58) },
                  { dst := some 60, op := .callS (.lit (.fn (I 103) [])) [(.slot 59), (.lit (.fn (I 104) []))] },
                  { dst := some 61, op := .un .not (.slot 60) },
                  { dst := some 2, op := .mv (.slot 61) }])
               (.ret)))
             (.skip)))))))))
     (.seq (.reg false [
         { dst := some 2, op := .mv (.lit (.bool false)) }])
      (.ret)))
  res := [.tmp 2]
  keepOwn := false

def F86_0 (I J : Nat → Nat) : AC :=
  .seq (.reg false [
       { dst := some 24, op := .bin .lss (.slot 23) (.slot 22) }])
    (.seq (.cond (.slot 24)
      (.skip)
      (.exit 1))
     (.seq (.block 2 (.seq (.reg false [
           { dst := some 25, op := .iaddr 11 (.slot 21) (.slot 23) },
           { dst := some 26, op := .loadA 11 (.slot 25) },
           { dst := some 6, op := .alloc [.int .i64 0, .str [], .str [], .int .i64 0, .str [], .str [], .str [], .str [], .str [], .slice [], .slice []] },
           { dst := none, op := .storeA 11 (.slot 6) (.slot 26) }])
        (.seq (.seq (.reg false [
             { dst := some 27, op := .mv (.slot 1) },
             { dst := some 28, op := .bin .leq (.slot 27) (.lit (.int .i64 0)) }])
          (.cond (.slot 28)
           (.seq (.reg false [
               { dst := some 29, op := .mv (.slot 1) },
               { dst := some 30, op := .mn (.slot 29) (.lit (.int .i64 0)) },
               { dst := some 4, op := .mv (.slot 30) }])
            (.ret))
           (.skip)))
         (.reg false [
            { dst := some 31, op := .loadA 11 (.slot 6) },
            { dst := some 32, op := .mv (.slot 1) },
            { dst := some 33, op := .callP (.lit (.fn (I 86) [])) [(.slot 31), (.slot 32)] false false },
            { dst := some 1, op := .mv (.slot 33) }]))))
      (.reg false [
         { dst := some 34, op := .bin .add (.slot 23) (.lit (.int .i64 1)) },
         { dst := some 23, op := .mv (.slot 34) }])))
/-- lispprover/term.rest -/
def F86 (I J : Nat → Nat) : AFunc where
  code := .seq (.reg false [
       { dst := some 2, op := .box (.slot 0) },
       { dst := some 4, op := .mv (.lit (.int .i64 0)) }])
    (.seq (.seq (.reg false [
         { dst := some 7, op := .faddr 0 (.slot 2) },
         { dst := some 8, op := .load1 (.slot 7) }])
      (.block 0 (.seq (.reg false [
           { dst := some 10, op := .bin .eql (.slot 8) (.lit (.int .i64 2)) },
           { dst := some 9, op := .mv (.slot 10) }])
        (.cond (.slot 9)
         (.seq (.reg false [
             { dst := some 11, op := .mv (.slot 1) },
             { dst := some 12, op := .faddr 3 (.slot 2) },
             { dst := some 13, op := .loadA 7 (.slot 12) },
             { dst := some 14, op := .callP (.lit (.fn (I 91) [])) [(.slot 13)] false false },
             { dst := some 15, op := .bin .sub (.slot 11) (.slot 14) },
             { dst := some 4, op := .mv (.slot 15) }])
          (.ret))
         (.seq (.reg false [
             { dst := some 17, op := .bin .eql (.slot 8) (.lit (.int .i64 3)) },
             { dst := some 16, op := .mv (.slot 17) }])
          (.cond (.slot 16)
           (.seq (.reg false [
               { dst := some 18, op := .mv (.slot 1) },
               { dst := some 19, op := .bin .sub (.slot 18) (.lit (.int .i64 1)) },
               { dst := some 1, op := .mv (.slot 19) }])
            (.seq (.seq (.reg false [
                 { dst := some 20, op := .faddr 10 (.slot 2) },
                 { dst := some 21, op := .load1 (.slot 20) },
                 { dst := some 22, op := .lenL (.slot 21) },
                 { dst := some 23, op := .mv (.lit (.int .i64 0)) }])
              (.block 1 (.loop [1, 21, 22, 23] [2] (F86_0 I J))))
             (.seq (.reg false [
                 { dst := some 35, op := .mv (.slot 1) },
                 { dst := some 4, op := .mv (.slot 35) }])
              (.ret))))
           (.skip)))))))
     (.seq (.reg false [
         { dst := some 36, op := .mv (.slot 1) },
         { dst := some 37, op := .bin .sub (.slot 36) (.lit (.int .i64 1)) },
         { dst := some 4, op := .mv (.slot 37) }])
      (.ret)))
  res := [.tmp 4]
  keepOwn := false

/-- lispprover/term.collect$1 -/
def F87 (I J : Nat → Nat) : AFunc where
  code := .seq (.reg false [
       { dst := some 3, op := .box (.slot 0) },
       { dst := some 4, op := .mv (.lit (.bool false)) }])
    (.seq (.seq (.reg false [
         { dst := some 5, op := .faddr 0 (.slot 3) },
         { dst := some 6, op := .load1 (.slot 5) },
         { dst := some 7, op := .load1 (.slot 1) },
         { dst := some 8, op := .bin .eql (.slot 6) (.slot 7) },
         { dst := some 9, op := .mv (.slot 8) },
         { dst := some 10, op := .load1 (.slot 2), guard := some (9, true) },
         { dst := some 11, op := .faddr 1 (.slot 3), guard := some (9, true) },
         { dst := some 12, op := .loadA 2 (.slot 11), guard := some (9, true) },
         { dst := some 13, op := .callP (.lit (.fn (I 105) [])) [(.slot 10), (.slot 12)] false false, guard := some (9, true) },
         { dst := some 14, op := .un .not (.slot 13), guard := some (9, true) },
         { dst := some 15, op := .pick (.slot 9) (.slot 14) (.lit (.bool false)) }])
      (.cond (.slot 15)
       (.reg false [
          { dst := some 16, op := .loadT (.slot 2) },
          { dst := some 17, op := .faddr 1 (.slot 3) },
          { dst := some 18, op := .loadA 2 (.slot 17) },
          { dst := some 19, op := .lits false 2 [(.slot 18)] },
          { dst := some 20, op := .app false false 2 (.take 16) (.slot 19) },
          { dst := none, op := .store1 (.slot 2) (.take 20) }])
       (.skip)))
     (.seq (.reg false [
         { dst := some 4, op := .mv (.lit (.bool true)) }])
      (.ret)))
  res := [.tmp 4]
  keepOwn := false

def F100_0 (I J : Nat → Nat) : AC :=
  .seq (.reg false [
       { dst := some 20, op := .bin .lss (.slot 19) (.slot 18) }])
    (.seq (.cond (.slot 20)
      (.skip)
      (.exit 0))
     (.seq (.block 1 (.seq (.reg false [
           { dst := some 21, op := .iaddr 11 (.slot 17) (.slot 19) },
           { dst := some 22, op := .loadA 11 (.slot 21) },
           { dst := some 7, op := .alloc [.int .i64 0, .str [], .str [], .int .i64 0, .str [], .str [], .str [], .str [], .str [], .slice [], .slice []] },
           { dst := none, op := .storeA 11 (.slot 7) (.slot 22) }])
        (.seq (.reg false [
            { dst := some 23, op := .mv (.slot 5) },
            { dst := some 24, op := .loadA 11 (.slot 7) },
            { dst := some 25, op := .mv (.slot 1) },
            { dst := some 26, op := .bin .sub (.slot 25) (.lit (.int .i64 1)) },
            { dst := some 27, op := .callP (.lit (.fn (I 100) [])) [(.slot 24), (.slot 26)] false false },
            { dst := some 28, op := .bin .add (.lit (.int .i64 1)) (.slot 27) },
            { dst := some 29, op := .mx (.slot 23) (.slot 28) },
            { dst := some 5, op := .mv (.slot 29) }])
         (.seq (.reg false [
             { dst := some 30, op := .mv (.slot 5) },
             { dst := some 31, op := .mv (.slot 1) },
             { dst := some 32, op := .bin .geq (.slot 30) (.slot 31) }])
          (.cond (.slot 32)
           (.seq (.reg false [
               { dst := some 33, op := .mv (.slot 1) },
               { dst := some 4, op := .mv (.slot 33) }])
            (.ret))
           (.skip))))))
      (.reg false [
         { dst := some 34, op := .bin .add (.slot 19) (.lit (.int .i64 1)) },
         { dst := some 19, op := .mv (.slot 34) }])))
/-- lispprover/term.depth -/
def F100 (I J : Nat → Nat) : AFunc where
  code := .seq (.reg false [
       { dst := some 2, op := .box (.slot 0) },
       { dst := some 4, op := .mv (.lit (.int .i64 0)) }])
    (.seq (.reg false [
        { dst := some 5, op := .mv (.lit (.int .i64 1)) }])
     (.seq (.seq (.reg false [
          { dst := some 8, op := .faddr 0 (.slot 2) },
          { dst := some 9, op := .load1 (.slot 8) },
          { dst := some 10, op := .bin .neq (.slot 9) (.lit (.int .i64 3)) },
          { dst := some 11, op := .mv (.slot 10) },
          { dst := some 12, op := .mv (.slot 1), guard := some (11, false) },
          { dst := some 13, op := .bin .leq (.slot 12) (.lit (.int .i64 1)), guard := some (11, false) },
          { dst := some 14, op := .pick (.slot 11) (.lit (.bool true)) (.slot 13) }])
       (.cond (.slot 14)
        (.seq (.reg false [
            { dst := some 15, op := .mv (.slot 5) },
            { dst := some 4, op := .mv (.slot 15) }])
         (.ret))
        (.skip)))
      (.seq (.seq (.reg false [
           { dst := some 16, op := .faddr 10 (.slot 2) },
           { dst := some 17, op := .load1 (.slot 16) },
           { dst := some 18, op := .lenL (.slot 17) },
           { dst := some 19, op := .mv (.lit (.int .i64 0)) }])
        (.block 0 (.loop [1, 5, 17, 18, 19] [2] (F100_0 I J))))
       (.seq (.reg false [
           { dst := some 35, op := .mv (.slot 5) },
           { dst := some 4, op := .mv (.slot 35) }])
        (.ret)))))
  res := [.tmp 4]
  keepOwn := false

/-- lispprover/term.variable -/
def F101 (I J : Nat → Nat) : AFunc where
  code := .seq (.reg false [
       { dst := some 1, op := .box (.slot 0) },
       { dst := some 2, op := .mv (.lit (.bool false)) }])
    (.seq (.reg true [
        { dst := some 3, op := .loadA 2 (.slot 1) },
        { dst := some 4, op := .callP (.lit (.fn (I 102) [])) [(.slot 3)] false false },
        { dst := some 5, op := .mv (.slot 4) },
        { dst := some 6, op := .loadA 2 (.slot 1), guard := some (5, true) },
        { dst := some 7, op := .callP (.lit (.fn (I 98) [])) [] false false, guard := some (5, true) },
        { dst := some 8, op := .fld true 3 2 (.slot 7), guard := some (5, true) },
        { dst := some 9, op := .eqA true [0, 0] (.slot 6) (.slot 8), guard := some (5, true) },
        { dst := some 10, op := .pick (.slot 5) (.slot 9) (.lit (.bool false)) },
        { dst := some 11, op := .mv (.slot 10) },
        { dst := some 12, op := .loadA 2 (.slot 1), guard := some (11, true) },
        { dst := some 13, op := .callP (.lit (.fn (I 123) [])) [] false false, guard := some (11, true) },
        { dst := some 14, op := .fld true 3 2 (.slot 13), guard := some (11, true) },
        { dst := some 15, op := .eqA true [0, 0] (.slot 12) (.slot 14), guard := some (11, true) },
        { dst := some 16, op := .pick (.slot 11) (.slot 15) (.lit (.bool false)) },
        { dst := some 2, op := .mv (.slot 16) }])
     (.ret))
  res := [.tmp 2]
  keepOwn := false

/-- lispprover/term.formed$1 -/
def F104 (I J : Nat → Nat) : AFunc where
  code := .seq (.reg false [
       { dst := some 1, op := .box (.slot 0) },
       { dst := some 2, op := .mv (.lit (.bool false)) }])
    (.seq (.reg false [
        { dst := some 3, op := .loadA 11 (.slot 1) },
        { dst := some 4, op := .callP (.lit (.fn (I 85) [])) [(.slot 3)] false false },
        { dst := some 5, op := .un .not (.slot 4) },
        { dst := some 2, op := .mv (.slot 5) }])
     (.ret))
  res := [.tmp 2]
  keepOwn := false

end Go.Vs.C

namespace Go.Vs.C
open Go Go.Vs
/-- slices.Clone[[]lispprover/api.Term,lispprover/api.Term] -/
def F76 (I J : Nat → Nat) : AFunc where
  code := .seq (.reg false [
       { dst := some 2, op := .mv (.lit (.slice [])) }])
    (.seq (.seq (.reg false [
         { dst := some 3, op := .mv (.slot 0) },
         { dst := some 4, op := .nilS (.slot 3) }])
       (.cond (.slot 4)
        (.seq (.reg false [
            { dst := some 2, op := .mv (.lit (.slice [])) }])
         (.ret))
        (.skip)))
     (.seq (.reg false [
         { dst := some 5, op := .lits true 11 [] },
         { dst := some 6, op := .mv (.slot 0) },
         { dst := some 7, op := .app true false 11 (.take 5) (.slot 6) },
         { dst := some 2, op := .mv (.take 7) }])
      (.ret)))
  res := [.tmp 2]
  keepOwn := true
end Go.Vs.C

namespace Go.Vs
open Go

abbrev Str := List Nat

structure Sym where
  pkg : Str
  name : Str

inductive Obj where
  | mk (kind : Int) (num den : Str) (sym : Sym) (text : Str) (pair : List Obj)

inductive Trm where
  | mk (kind : Int) (name : Sym) (value : Obj) (args : List Trm)

structure Asg where
  var : Sym
  term : Trm

inductive Raw where
  | mk (kind n : Int) (s : Str) (l : List Raw)

def Sym.cells (s : Sym) : List AV := [.str s.pkg, .str s.name]

mutual
def Obj.cells : Obj → List AV
  | .mk k n d s t p => [.int .i64 k, .str n, .str d, .str s.pkg, .str s.name, .str t, .slice (Obj.avs p)]
def Obj.avs : List Obj → List AV
  | [] => []
  | o :: l => .agg o.cells :: Obj.avs l
end

mutual
def Trm.cells : Trm → List AV
  | .mk k s (.mk vk vn vd vs vt vp) a => [.int .i64 k, .str s.pkg, .str s.name, .int .i64 vk, .str vn, .str vd, .str vs.pkg, .str vs.name, .str vt, .slice (Obj.avs vp), .slice (Trm.avs a)]
def Trm.avs : List Trm → List AV
  | [] => []
  | t :: l => .agg t.cells :: Trm.avs l
end

def Asg.cells (a : Asg) : List AV := .str a.var.pkg :: .str a.var.name :: a.term.cells

mutual
def Raw.cells : Raw → List AV
  | .mk k n s l => [.int .i64 k, .int .i64 n, .str s, .slice (Raw.avs l)]
def Raw.avs : List Raw → List AV
  | [] => []
  | r :: l => .agg r.cells :: Raw.avs l
end

theorem Obj.avs_eq : ∀ l : List Obj, Obj.avs l = l.map fun o => .agg o.cells
  | [] => rfl
  | r :: l => by simp [Obj.avs, Obj.avs_eq l]

theorem Trm.avs_eq : ∀ l : List Trm, Trm.avs l = l.map fun o => .agg o.cells
  | [] => rfl
  | r :: l => by simp [Trm.avs, Trm.avs_eq l]

theorem Raw.avs_eq : ∀ l : List Raw, Raw.avs l = l.map fun r => .agg r.cells
  | [] => rfl
  | r :: l => by simp [Raw.avs, Raw.avs_eq l]

theorem obj_len (o : Obj) : o.cells.length = 7 := by cases o; rfl
theorem trm_len (t : Trm) : t.cells.length = 11 := by
  cases t with
  | mk k s v a => cases v; rfl
theorem raw_len (r : Raw) : r.cells.length = 4 := by cases r; rfl
theorem obj_take (o : Obj) : List.take 7 o.cells = o.cells := List.take_of_length_le (by rw [obj_len]; exact Nat.le_refl _)
theorem trm_take (t : Trm) : List.take 11 t.cells = t.cells := List.take_of_length_le (by rw [trm_len]; exact Nat.le_refl _)
theorem raw_take (r : Raw) : List.take 4 r.cells = r.cells := List.take_of_length_le (by rw [raw_len]; exact Nat.le_refl _)

theorem wrap64 (n : Int) (h1 : -9000000000000000000 ≤ n) (h2 : n ≤ 9000000000000000000) : IntKind.i64.wrap n = n := by
  simp [IntKind.wrap, IntKind.bits, IntKind.signed]
  omega

/- Equality, cell by cell. -/
mutual
def Obj.eq : Obj → Obj → Bool
  | .mk k n d s t p, .mk k' n' d' s' t' p' => decide (k = k') && decide (n = n') && decide (d = d') && decide (s.pkg = s'.pkg) && decide (s.name = s'.name) && decide (t = t') && Obj.eqs p p'
def Obj.eqs : List Obj → List Obj → Bool
  | [], [] => true
  | a :: l, b :: r => Obj.eq a b && Obj.eqs l r
  | _, _ => false
end

mutual
theorem Obj.eq_iff : ∀ a b : Obj, Obj.eq a b = true ↔ a = b
  | .mk k n d s t p, .mk k' n' d' s' t' p' => by
    cases s; cases s'
    simp [Obj.eq, Obj.eqs_iff p p', and_assoc]
theorem Obj.eqs_iff : ∀ a b : List Obj, Obj.eqs a b = true ↔ a = b
  | [], [] => by simp [Obj.eqs]
  | [], _ :: _ => by simp [Obj.eqs]
  | _ :: _, [] => by simp [Obj.eqs]
  | a :: l, b :: r => by simp [Obj.eqs, Obj.eq_iff a b, Obj.eqs_iff l r]
end

mutual
def Trm.eq : Trm → Trm → Bool
  | .mk k s v a, .mk k' s' v' a' => decide (k = k') && decide (s.pkg = s'.pkg) && decide (s.name = s'.name) && Obj.eq v v' && Trm.eqs a a'
def Trm.eqs : List Trm → List Trm → Bool
  | [], [] => true
  | a :: l, b :: r => Trm.eq a b && Trm.eqs l r
  | _, _ => false
end

mutual
theorem Trm.eq_iff : ∀ a b : Trm, Trm.eq a b = true ↔ a = b
  | .mk k s v a, .mk k' s' v' a' => by
    cases s; cases s'
    simp [Trm.eq, Obj.eq_iff, Trm.eqs_iff a a', and_assoc]
theorem Trm.eqs_iff : ∀ a b : List Trm, Trm.eqs a b = true ↔ a = b
  | [], [] => by simp [Trm.eqs]
  | [], _ :: _ => by simp [Trm.eqs]
  | _ :: _, [] => by simp [Trm.eqs]
  | a :: l, b :: r => by simp [Trm.eqs, Trm.eq_iff a b, Trm.eqs_iff l r]
end

/- Sizes that a counter can hold. -/
mutual
def Obj.ok : Obj → Prop
  | .mk _ _ _ _ _ p => p.length < 1000000 ∧ Obj.oks p
def Obj.oks : List Obj → Prop
  | [] => True
  | a :: l => a.ok ∧ Obj.oks l
end

mutual
def Trm.ok : Trm → Prop
  | .mk _ _ v a => v.ok ∧ a.length < 1000000 ∧ Trm.oks a
def Trm.oks : List Trm → Prop
  | [] => True
  | a :: l => a.ok ∧ Trm.oks l
end

theorem Obj.oks_mem : ∀ {l : List Obj}, Obj.oks l → ∀ a ∈ l, a.ok
  | [], _, a, h => by simp at h
  | b :: l, h, a, hm => by
    rcases List.mem_cons.1 hm with rfl | hm
    · exact h.1
    · exact Obj.oks_mem h.2 a hm

theorem Trm.oks_mem : ∀ {l : List Trm}, Trm.oks l → ∀ a ∈ l, a.ok
  | [], _, a, h => by simp at h
  | b :: l, h, a, hm => by
    rcases List.mem_cons.1 hm with rfl | hm
    · exact h.1
    · exact Trm.oks_mem h.2 a hm
end Go.Vs

namespace Go.Vs
open Go
set_option linter.unusedSimpArgs false
attribute [simp] Obj.avs_eq obj_len obj_take Trm.avs_eq trm_len trm_take Raw.avs_eq raw_len raw_take

def Sym.none : Sym := ⟨[], []⟩
def Sym.lisp (n : Str) : Sym := ⟨[108, 105, 115, 112], n⟩
def Sym.user (n : Str) : Sym := ⟨[117, 115, 101, 114], n⟩
def Obj.zero : Obj := .mk 0 [] [] Sym.none [] []
def Obj.num (n d : Str) : Obj := .mk 1 n d Sym.none [] []
def Obj.symb (s : Sym) : Obj := .mk 2 [] [] s [] []
def Obj.txt (s : Str) : Obj := .mk 3 [] [] Sym.none s []
def Obj.cons (a d : Obj) : Obj := .mk 4 [] [] Sym.none [] [a, d]
def Obj.nil : Obj := .symb (Sym.lisp [110, 105, 108])
def Obj.list (l : List Obj) : Obj := l.foldr Obj.cons Obj.nil
def Trm.var (s : Sym) : Trm := .mk 1 s Obj.zero []
def Trm.const (o : Obj) : Trm := .mk 2 Sym.none o []
def Trm.app (f : Sym) (l : List Trm) : Trm := .mk 3 f Obj.zero l
def Trm.zero : Trm := .mk 0 Sym.none Obj.zero []

theorem sym_len (s : Sym) : s.cells.length = 2 := by cases s; rfl
theorem sym_take (s : Sym) : List.take 2 s.cells = s.cells := by cases s; rfl
attribute [simp] sym_len sym_take

theorem purs_cons (v p : AV) (r ps : List AV) (h1 : v.pur = some p) (h2 : purs r = some ps) : purs (v :: r) = some (p :: ps) := by simp [purs, h1, h2]
theorem sym_purs (s : Sym) : purs s.cells = some s.cells := by cases s; rfl
theorem obj_purs (o : Obj) : purs o.cells = some o.cells := by cases o; rfl
theorem trm_purs (t : Trm) : purs t.cells = some t.cells := by
  cases t with
  | mk k s v a => cases v; rfl
theorem raw_purs (r : Raw) : purs r.cells = some r.cells := by cases r; rfl
theorem sym_all (s : Sym) : s.cells.all AV.one = true := by cases s; rfl
theorem obj_all (o : Obj) : o.cells.all AV.one = true := by cases o; rfl
theorem trm_all (t : Trm) : t.cells.all AV.one = true := by
  cases t with
  | mk k s v a => cases v; rfl
theorem raw_all (r : Raw) : r.cells.all AV.one = true := by cases r; rfl
theorem sym_kept (s : Sym) (l : List Nat) : s.cells.all (AV.keptBy l) = true := by cases s; simp [Sym.cells]
theorem obj_kept (o : Obj) (l : List Nat) : o.cells.all (AV.keptBy l) = true := by cases o; simp [Obj.cells]
theorem trm_kept (t : Trm) (l : List Nat) : t.cells.all (AV.keptBy l) = true := by
  cases t with
  | mk k s v a => cases v; simp [Trm.cells]
theorem raw_kept (r : Raw) (l : List Nat) : r.cells.all (AV.keptBy l) = true := by cases r; simp [Raw.cells]
theorem sym_drop (s : Sym) : List.drop 2 s.cells = [] := by cases s; rfl
theorem obj_drop (o : Obj) : List.drop 7 o.cells = [] := by cases o; rfl
theorem trm_drop (t : Trm) : List.drop 11 t.cells = [] := by
  cases t with
  | mk k s v a => cases v; rfl
theorem raw_drop (r : Raw) : List.drop 4 r.cells = [] := by cases r; rfl
attribute [simp] sym_drop obj_drop trm_drop raw_drop
attribute [simp] sym_purs obj_purs trm_purs raw_purs sym_all obj_all trm_all raw_all sym_kept obj_kept trm_kept raw_kept

/-- What is grown in place, and not yet copied. -/
def accA (sz : Nat) : List AV → AV
  | [] => .onil
  | a :: l => .own false sz (a :: l)
theorem copy_acc (sz : Nat) (l : List AV) : AV.copy (accA sz l) = some (.slice l) := by cases l <;> rfl
theorem pur_acc (sz : Nat) (l : List AV) : AV.pur (accA sz l) = some (.slice l) := by cases l <;> rfl
theorem kept_acc (sz : Nat) (l : List AV) (k : List Nat) : AV.keptBy k (accA sz l) = true := by cases l <;> rfl
theorem cells_acc (sz : Nat) (l : List AV) : AV.cellsA (accA sz l) = [accA sz l] := by cases l <;> rfl
theorem one_acc (sz : Nat) (l : List AV) : AV.one (accA sz l) = true := by cases l <;> rfl
theorem acc_cases (sz : Nat) (l : List AV) : (accA sz l = .onil ∧ l = []) ∨ (accA sz l = .own false sz l ∧ l ≠ []) := by cases l <;> simp [accA]
theorem acc_snoc (sz : Nat) (l : List AV) (x : AV) : accA sz (l ++ [x]) = .own false sz (l ++ [x]) := by cases l <;> rfl
theorem acc_cons (sz : Nat) (l : List AV) (x : AV) : accA sz (x :: l) = .own false sz (x :: l) := rfl
theorem acc_nil (sz : Nat) : accA sz [] = .onil := rfl
attribute [simp] acc_snoc acc_cons acc_nil
attribute [simp] copy_acc pur_acc kept_acc cells_acc one_acc

/-- Lists of integers. -/
def iv (l : List Int) : List AV := l.map (AV.int .i64)
theorem iv_nil : iv [] = [] := rfl
theorem iv_cons (a : Int) (l : List Int) : iv (a :: l) = .int .i64 a :: iv l := rfl
theorem iv_len (l : List Int) : (iv l).length = l.length := by simp [iv]
theorem iv_get (l : List Int) (i : Nat) : (iv l)[i]? = (l[i]?).map (AV.int .i64) := by simp [iv]
theorem iv_take (l : List Int) (n : Nat) : (iv l).take n = iv (l.take n) := by simp [iv, List.map_take]
theorem iv_app (l r : List Int) : iv (l ++ r) = iv l ++ iv r := by simp [iv]
theorem iv_eq_nil (l : List Int) : iv l = [] ↔ l = [] := by simp [iv]
theorem iv_one (l : List Int) : (iv l).all (fun e => Nat.beq e.cellsA.length 1) = true := by simp [iv]
theorem iv_getE (l : List Int) (i : Nat) (h : i < (iv l).length) : (iv l)[i] = AV.int .i64 (l[i]'(by simpa [iv] using h)) := by simp [iv]
theorem iv_set (l : List Int) (i : Nat) (x : Int) : (iv l).set i (.int .i64 x) = iv (l.set i x) := by simp [iv, List.map_set]
theorem iv_rep (n : Nat) : List.replicate n (AV.int .i64 0) = iv (List.replicate n 0) := by simp [iv]
attribute [simp] iv_set iv_rep iv_getE iv_nil iv_cons iv_len iv_get iv_take iv_app iv_eq_nil iv_one

structure TabMake (prog : Prog) (prims : Prims) (I J : Nat → Nat) : Prop where
  h9 : prims (I 9) = none ∧ prog (I 9) = some (C.F9 I J)
  h10 : prims (I 10) = none ∧ prog (I 10) = some (C.F10 I J)
  h24 : prims (I 24) = none ∧ prog (I 24) = some (C.F24 I J)
  h37 : prims (I 37) = none ∧ prog (I 37) = some (C.F37 I J)
  h47 : prims (I 47) = none ∧ prog (I 47) = some (C.F47 I J)
  h48 : prims (I 48) = none ∧ prog (I 48) = some (C.F48 I J)
  h51 : prims (I 51) = none ∧ prog (I 51) = some (C.F51 I J)
  h67 : prims (I 67) = none ∧ prog (I 67) = some (C.F67 I J)
  h70 : prims (I 70) = none ∧ prog (I 70) = some (C.F70 I J)

structure TabRef2 (prog : Prog) (prims : Prims) (I J : Nat → Nat) : Prop where
  h46 : prims (I 46) = none ∧ prog (I 46) = some (C.F46 I J)
  h64 : prims (I 64) = none ∧ prog (I 64) = some (C.F64 I J)
  h66 : prims (I 66) = none ∧ prog (I 66) = some (C.F66 I J)
  h68 : prims (I 68) = none ∧ prog (I 68) = some (C.F68 I J)
  h69 : prims (I 69) = none ∧ prog (I 69) = some (C.F69 I J)
  h71 : prims (I 71) = none ∧ prog (I 71) = some (C.F71 I J)
  h72 : prims (I 72) = none ∧ prog (I 72) = some (C.F72 I J)
  h73 : prims (I 73) = none ∧ prog (I 73) = some (C.F73 I J)
  h90 : prims (I 90) = none ∧ prog (I 90) = some (C.F90 I J)

structure TabRef1 (prog : Prog) (prims : Prims) (I J : Nat → Nat) : Prop where
  h65 : prims (I 65) = none ∧ prog (I 65) = some (C.F65 I J)
  h89 : prims (I 89) = none ∧ prog (I 89) = some (C.F89 I J)
  h106 : prims (I 106) = none ∧ prog (I 106) = some (C.F106 I J)
  h107 : prims (I 107) = none ∧ prog (I 107) = some (C.F107 I J)
  h108 : prims (I 108) = none ∧ prog (I 108) = some (C.F108 I J)
  h109 : prims (I 109) = none ∧ prog (I 109) = some (C.F109 I J)
  h126 : prims (I 126) = none ∧ prog (I 126) = some (C.F126 I J)
  h127 : prims (I 127) = none ∧ prog (I 127) = some (C.F127 I J)
  h128 : prims (I 128) = none ∧ prog (I 128) = some (C.F128 I J)
  h129 : prims (I 129) = none ∧ prog (I 129) = some (C.F129 I J)

end Go.Vs

namespace Go.Vs
open Go
set_option linter.unusedSimpArgs false
attribute [simp] Obj.avs_eq obj_len obj_take

section
variable {gl : Globs} {prog : Prog} {prims : Prims} {I J : Nat → Nat}

def H46 (ca cb : List AV) (stk : List Boxes) (i : Nat) : St :=
  { env := ofList [(2, .ptr (.loc 2) 0), (3, .ptr (.loc 3) 0), (5, .int .i64 i)], bx := ofListB [(2, some (.cells ca)), (3, some (.cells cb))], nb := fun _ => none, stk := stk }

theorem ref2_equal (hp : prims (I 46) = none) (hf : prog (I 46) = some (C.F46 I J)) : ∀ (a b : Obj) stk, a.ok →
    callW gl prog prims (I 46) [.agg a.cells, .agg b.cells] stk = some (.bool (Obj.eq a b), stk)
  | .mk k n d ⟨sp, sn⟩ t p, .mk k' n' d' ⟨sp', sn'⟩ t' p', stk, hok => by
    refine callW_wp hp hf ?_
    simp [C.F46, Obj.cells]
    refine wpg_split (fun h => ?_) (fun h => ?_)
    · simp [h]; simp at h; simp [h, Obj.eq]
    simp at h; subst h; simp
    refine wpg_split (fun h => ?_) (fun h => ?_)
    · simp [h]; simp at h; simp [h, Obj.eq]
    simp at h; subst h; simp
    refine wpg_split (fun h => ?_) (fun h => ?_)
    · simp [h]; simp at h; simp [h, Obj.eq]
    simp at h; subst h; simp
    refine wpg_split (fun h => ?_) (fun h => ?_)
    · simp [h]; simp at h; simp [Obj.eq]; grind
    simp at h; obtain ⟨rfl, rfl⟩ := h; simp
    refine wpg_split (fun h => ?_) (fun h => ?_)
    · simp [h]; simp at h; simp [h, Obj.eq]
    simp at h; subst h; simp
    refine wpc_split (fun h => ?_) (fun h => ?_)
    · have e7 : Obj.eqs p p' = false := by rw [← Bool.not_eq_true, Obj.eqs_iff]; intro h2; simp [h2] at h
      simp [e7, Obj.eq]
    simp at h
    simp
    have loop : ∀ (q q' : List Obj) (i : Nat), p.drop i = q → p'.drop i = q' → ∀ s0, project [2, 3, 5] [2, 3] s0 = some (H46 [.int .i64 k, .str n, .str d, .str sp, .str sn, .str t, .slice (p.map fun o => AV.agg o.cells)] [.int .i64 k, .str n, .str d, .str sp, .str sn, .str t, .slice (p'.map fun o => AV.agg o.cells)] stk i) →
        wpl gl (callW gl prog prims) [2, 3, 5] [2, 3] (C.F46_0 I J) s0 fun x s => s.stk = stk ∧ if Obj.eqs q q' = true then x = .exit 0 else x = .ret ∧ s.env 4 = .bool false := by
      intro q
      induction q with
      | nil =>
        intro q' i hq hq' s0 hp0
        have hl := drop_nil hq
        have : q' = [] := by rw [← hq']; exact List.drop_eq_nil_of_le (by omega)
        subst this
        refine wpl_step hp0 ?_
        have : ¬ i < p.length := by omega
        simp [H46, C.F46_0, this, Obj.eqs]
      | cons x q ih =>
        intro q' i hq hq' s0 hp0
        obtain ⟨hi, hx, hq2, hm⟩ := drop_cons hq
        have hi2 : i < p'.length := by omega
        obtain ⟨y, q'', rfl⟩ : ∃ y q'', q' = y :: q'' := by rw [List.drop_eq_getElem_cons hi2] at hq'; exact ⟨_, _, hq'.symm⟩
        obtain ⟨_, hy, hq3, _⟩ := drop_cons hq'
        have hrec := ref2_equal hp hf x y [] (Obj.oks_mem hok.2 _ hm)
        have hlen := hok.1
        have hw := wrap64 ((i : Int) + 1) (by omega) (by omega)
        refine wpl_step hp0 ?_
        simp [H46, C.F46_0, hi, hi2, hx, hy, hrec]
        refine wpc_split (fun h => ?_) (fun h => ?_)
        · simp at h
          simp [h, Obj.eqs]
        · simp at h
          simp [h, Obj.eqs, hw]
          exact ih _ (i + 1) hq2 hq3 _ (by simp [H46])
    refine wpk_loop (wpl_mono (loop p p' 0 rfl rfl _ (by simp [H46])) ?_)
    rintro x s ⟨h1, h2⟩
    cases he : Obj.eqs p p' with
    | true => simp [he] at h2; simp [h2, Obj.eq, he, h1]
    | false => simp [he] at h2; simp [h2, Obj.eq, he, h1]
termination_by a => SizeOf.sizeOf a
decreasing_by
  have := List.sizeOf_lt_of_mem hm
  simp
  omega
end
end Go.Vs

namespace Go.Vs
open Go
set_option linter.unusedSimpArgs false

mutual
def Raw.left : Raw → Int → Int
  | .mk _ _ s l, m => if 12 < s.length ∨ 6 < l.length then -1 else Raw.lefts l (m - 1)
def Raw.lefts : List Raw → Int → Int
  | [], m => m
  | r :: l, m => if 0 ≤ m then Raw.lefts l (r.left m) else m
end

mutual
theorem Raw.left_le : ∀ (r : Raw) (m : Int), 0 ≤ m → -1 ≤ r.left m ∧ r.left m ≤ m
  | .mk k n s l, m, h => by
    simp only [Raw.left]
    split
    · omega
    · have := Raw.lefts_le l (m - 1) (by omega)
      omega
theorem Raw.lefts_le : ∀ (l : List Raw) (m : Int), -1 ≤ m → -1 ≤ Raw.lefts l m ∧ Raw.lefts l m ≤ m
  | [], m, h => by simp only [Raw.lefts]; omega
  | r :: l, m, h => by
    simp only [Raw.lefts]
    split
    · have h1 := Raw.left_le r m (by omega)
      have := Raw.lefts_le l (r.left m) h1.1
      omega
    · omega
end

section
variable {gl : Globs} {prog : Prog} {prims : Prims} {I J : Nat → Nat} (tm : TabMake prog prims I J) (t2 : TabRef2 prog prims I J)

def H51 (k n : Int) (s : List Nat) (l : List Raw) (stk : List Boxes) (i : Nat) (m : Int) : St :=
  { env := ofList [(1, .int .i64 m), (2, .ptr (.loc 2) 0), (5, .int .i64 i)], bx := ofListB [(2, some (.cells [.int .i64 k, .int .i64 n, .str s, .slice (l.map fun r => .agg r.cells)]))], nb := fun _ => none, stk := stk }

include tm
theorem left_spec : ∀ (r : Raw) (m : Int), 0 ≤ m → m < 1000 → ∀ stk,
    callW gl prog prims (I 51) [.agg r.cells, .int .i64 m] stk = some (.int .i64 (r.left m), stk)
  | .mk k n s l, m, h1, h2, stk => by
    refine callW_wp tm.h51.1 tm.h51.2 ?_
    have hw : IntKind.i64.wrap (m - 1) = m - 1 := wrap64 _ (by omega) (by omega)
    simp [C.F51, Raw.cells]
    refine wpg_split (fun h => ?_) (fun h => ?_)
    · simp [h]; simp at h; simp [Raw.left]; omega
    simp [h]
    refine wpc_split (fun h5 => ?_) (fun h5 => ?_)
    · simp; simp at h5; simp [Raw.left]; omega
    simp at h h5
    simp [hw, h, h5]
    have loop : ∀ (rs : List Raw) (i : Nat) (q : Int), l.drop i = rs → -1 ≤ q → q < 1000 → ∀ s0, project [1, 2, 5] [2] s0 = some (H51 k n s l stk i q) →
        wpl gl (callW gl prog prims) [1, 2, 5] [2] (C.F51_0 I J) s0 fun x fin => x = .exit 0 ∧ fin.env 1 = .int .i64 (Raw.lefts rs q) ∧ fin.stk = stk := by
      intro rs
      induction rs with
      | nil =>
        intro i q hd hq1 hq2 s0 hp0
        have hi := drop_nil hd
        have hi' : ¬ (i < l.length) := by omega
        refine wpl_step hp0 ?_
        simp [C.F51_0, H51, hi', Raw.lefts]
      | cons r rs ih =>
        intro i q hd hq1 hq2 s0 hp0
        obtain ⟨hi, hx, hd2, hm⟩ := drop_cons hd
        refine wpl_step hp0 ?_
        by_cases hq : 0 ≤ q
        · have hrec := left_spec r q hq hq2 []
          have hwi : IntKind.i64.wrap ((i : Int) + 1) = (i : Int) + 1 := wrap64 _ (by omega) (by omega)
          have hrl := Raw.left_le r q hq
          simp [C.F51_0, H51, hi, hx, hq, hrec, hwi, Raw.lefts]
          exact ih (i + 1) _ hd2 hrl.1 (by omega) _ (by simp [H51])
        · simp [C.F51_0, H51, hi, hq, Raw.lefts]
    refine wpk_loop (wpl_mono (loop l 0 (m - 1) rfl (by omega) (by omega) _ (by simp [H51])) ?_)
    rintro x fin ⟨rfl, h3, h4⟩
    simp [h3, h4, Raw.left]
    omega
termination_by r => SizeOf.sizeOf r
decreasing_by
  have := List.sizeOf_lt_of_mem hm
  simp
  omega

def H10 (l : List Raw) (m : Int) (stk : List Boxes) (i : Nat) : St :=
  { env := ofList [(0, .slice (l.map fun r => .agg r.cells)), (1, .int .i64 m), (5, .int .i64 i)], bx := ofListB [], nb := fun _ => none, stk := stk }

def Raw.few (r : Raw) (m : Int) : Bool := decide (0 ≤ r.left m)

theorem few_spec (r : Raw) (m : Int) (h1 : 0 ≤ m) (h2 : m < 1000) (stk : List Boxes) :
    callW gl prog prims (I 9) [.agg r.cells, .int .i64 m] stk = some (.bool (r.few m), stk) := by
  refine callW_wp tm.h9.1 tm.h9.2 ?_
  have := left_spec (gl := gl) tm r m h1 h2 []
  obtain ⟨k, n, s, l⟩ := r
  simp [Raw.cells] at this
  simp [C.F9, Raw.cells, this, Raw.few]

def Raw.fewAll (l : List Raw) (m : Int) : Bool := decide (l.length ≤ 8) && l.all (fun r => r.few m)

theorem fewAll_spec (l : List Raw) (m : Int) (h1 : 0 ≤ m) (h2 : m < 1000) (stk : List Boxes) :
    callW gl prog prims (I 10) [.slice (l.map fun r => .agg r.cells), .int .i64 m] stk = some (.bool (Raw.fewAll l m), stk) := by
  refine callW_wp tm.h10.1 tm.h10.2 ?_
  simp [C.F10]
  refine wpc_split (fun h => ?_) (fun h => ?_)
  · simp; simp at h; simp [Raw.fewAll]; omega
  simp at h
  simp
  have hl : l.length ≤ 8 := by omega
  have loop : ∀ (rs : List Raw) (i : Nat), l.drop i = rs → ∀ s0, project [0, 1, 5] [] s0 = some (H10 l m stk i) →
        wpl gl (callW gl prog prims) [0, 1, 5] [] (C.F10_0 I J) s0 fun x fin => fin.stk = stk ∧ if rs.all (fun r => r.few m) = true then x = .exit 0 else x = .ret ∧ fin.env 4 = .bool false := by
    intro rs
    induction rs with
    | nil =>
      intro i hd s0 hp0
      have hi := drop_nil hd
      have hi' : ¬ (i < l.length) := by omega
      refine wpl_step hp0 ?_
      simp [C.F10_0, H10, hi']
    | cons r rs ih =>
      intro i hd s0 hp0
      obtain ⟨hi, hx, hd2, hm⟩ := drop_cons hd
      refine wpl_step hp0 ?_
      have hwi : IntKind.i64.wrap ((i : Int) + 1) = (i : Int) + 1 := wrap64 _ (by omega) (by omega)
      simp [C.F10_0, H10, hi, hx, few_spec tm r m h1 h2]
      refine wpc_split (fun h => ?_) (fun h => ?_)
      · simp at h
        simp [h]
      · simp at h
        simp [h, hwi]
        exact wpl_mono (ih (i + 1) hd2 _ (by simp [H10])) (by simp)
  refine wpk_loop (wpl_mono (loop l 0 rfl _ (by simp [H10])) ?_)
  rintro x fin ⟨h3, h4⟩
  cases hb : l.all (fun r => r.few m) with
  | true => rw [hb] at h4; simp only [if_true] at h4; subst h4; simp [h3, Raw.fewAll, hb, hl]
  | false => rw [hb] at h4; simp at h4; simp [h4, h3, Raw.fewAll, hb]

theorem mod_spec (n m : Int) (h1 : 0 < m) (h2 : m < 1000000) (stk : List Boxes) :
    callW gl prog prims (I 37) [.int .i64 n, .int .i64 m] stk = some (.int .i64 (n % m), stk) := by
  refine callW_wp tm.h37.1 tm.h37.2 ?_
  have hm : ¬ m = 0 := by omega
  simp [C.F37, hm]
  have ht := Int.tmod_eq_emod (a := n) (b := m)
  have e1 := Int.emod_nonneg n hm
  have e2 := Int.emod_lt_of_pos n h1
  have e3 : (m.natAbs : Int) = m := by omega
  refine wpc_split (fun h => ?_) (fun h => ?_)
  · simp at h
    have : IntKind.i64.wrap (n.tmod m + m) = n.tmod m + m := by
      refine wrap64 _ ?_ ?_
      · split at ht <;> omega
      · split at ht <;> omega
    simp [this]
    split at ht <;> omega
  · simp at h
    simp
    split at ht <;> omega

theorem user_spec (n : Str) (stk : List Boxes) : callW gl prog prims (I 48) [.str n] stk = some (.agg (Sym.user n).cells, stk) := by
  refine callW_wp tm.h48.1 tm.h48.2 ?_
  simp [C.F48, Sym.cells, Sym.user]

def Sym.vars : List Sym := [Sym.user [120], Sym.user [121], Sym.user [122], Sym.user [117]]

theorem vars_spec (n : Nat) (hn : n ≤ 4) (stk : List Boxes) : callW gl prog prims (I 47) [.int .i64 n] stk = some (.slice ((Sym.vars.take n).map fun s => .agg s.cells), stk) := by
  refine callW_wp tm.h47.1 tm.h47.2 ?_
  have : n = 0 ∨ n = 1 ∨ n = 2 ∨ n = 3 ∨ n = 4 := by omega
  rcases this with rfl | rfl | rfl | rfl | rfl <;> simp [C.F47, user_spec tm, Sym.vars, Sym.user, Sym.cells]

def Raw.part : List Raw → Nat → Raw
  | l, i => l.getD i (.mk 0 0 [] [])

theorem part_spec (k n : Int) (s : Str) (l : List Raw) (i : Nat) (stk : List Boxes) : callW gl prog prims (I 70) [.agg (Raw.mk k n s l).cells, .int .i64 i] stk = some (.agg (Raw.part l i).cells, stk) := by
  refine callW_wp tm.h70.1 tm.h70.2 ?_
  simp [C.F70, Raw.cells]
  refine wpc_split (fun h => ?_) (fun h => ?_)
  · simp at h
    simp [h, Raw.part]
  · simp at h
    simp [Raw.part, List.getElem?_eq_none h, Raw.cells]

omit tm
include t2
theorem lisp_spec (n : Str) (stk : List Boxes) : callW gl prog prims (I 73) [.str n] stk = some (.agg (Sym.lisp n).cells, stk) := by
  refine callW_wp t2.h73.1 t2.h73.2 ?_
  simp [C.F73, Sym.cells, Sym.lisp]

theorem symbol_spec (s : Sym) (stk : List Boxes) : callW gl prog prims (I 68) [.agg s.cells] stk = some (.agg (Obj.symb s).cells, stk) := by
  refine callW_wp t2.h68.1 t2.h68.2 ?_
  simp [C.F68, Sym.cells, Obj.symb, Obj.cells]

theorem text_spec (s : Str) (stk : List Boxes) : callW gl prog prims (I 69) [.str s] stk = some (.agg (Obj.txt s).cells, stk) := by
  refine callW_wp t2.h69.1 t2.h69.2 ?_
  simp [C.F69, Sym.none, Obj.txt, Obj.cells]

theorem nil_spec (stk : List Boxes) : callW gl prog prims (I 90) [] stk = some (.agg Obj.nil.cells, stk) := by
  refine callW_wp t2.h90.1 t2.h90.2 ?_
  simp [C.F90, lisp_spec t2, symbol_spec t2, Obj.nil]

theorem cons_spec (a d : Obj) (stk : List Boxes) : callW gl prog prims (I 71) [.agg a.cells, .agg d.cells] stk = some (.agg (Obj.cons a d).cells, stk) := by
  refine callW_wp t2.h71.1 t2.h71.2 ?_
  simp [C.F71, Obj.cons, Sym.none, show ∀ k n d s t p, (Obj.mk k n d s t p).cells = [.int .i64 k, .str n, .str d, .str s.pkg, .str s.name, .str t, .slice (Obj.avs p)] from fun _ _ _ _ _ _ => by rw [Obj.cells]]

def Obj.lst : List Obj → Obj
  | [] => Obj.nil
  | a :: l => Obj.cons a (Obj.lst l)

def H72 (l : List Obj) (o : Obj) (stk : List Boxes) (i : Int) : St :=
  { env := ofList [(0, .slice (l.map fun r => .agg r.cells)), (2, .ptr (.loc 2) 0), (3, .ptr (.loc 3) 0), (4, .int .i64 i)], bx := ofListB [(2, some (.cells Obj.zero.cells)), (3, some (.cells o.cells))], nb := fun _ => none, stk := stk }

theorem list_spec (l : List Obj) (stk : List Boxes) (hl : l.length < 1000000000) : callW gl prog prims (I 72) [.slice (l.map fun r => .agg r.cells)] stk = some (.agg (Obj.lst l).cells, stk) := by
  refine callW_wp t2.h72.1 t2.h72.2 ?_
  have hw := wrap64 ((l.length : Int) - 1) (by omega) (by omega)
  simp [C.F72, nil_spec t2, hw]
  have loop : ∀ (i : Nat), i ≤ l.length → ∀ s0, project [0, 2, 3, 4] [2, 3] s0 = some (H72 l (Obj.lst (l.drop i)) stk ((i : Int) - 1)) →
        wpl gl (callW gl prog prims) [0, 2, 3, 4] [2, 3] (C.F72_0 I J) s0 fun x fin => x = .exit 0 ∧ fin.env 3 = .ptr (.loc 3) 0 ∧ fin.env 2 = .ptr (.loc 2) 0 ∧ fin.bx 3 = some (.cells (Obj.lst l).cells) ∧ fin.bx 2 = some (.cells Obj.zero.cells) ∧ fin.nb 3 = none ∧ fin.nb 2 = none ∧ fin.stk = stk := by
    intro i
    induction i with
    | zero =>
      intro hi s0 hp0
      refine wpl_step hp0 ?_
      simp [C.F72_0, H72]
    | succ i ih =>
      intro hi s0 hp0
      refine wpl_step hp0 ?_
      have hc : ((i + 1 : Nat) : Int) - 1 = (i : Int) := by omega
      have hwi := wrap64 ((i : Int) - 1) (by omega) (by omega)
      have hii : i < l.length := by omega
      have hll : Obj.lst (l.drop i) = Obj.cons l[i] (Obj.lst (l.drop (i + 1))) := by rw [List.drop_eq_getElem_cons hii]; rfl
      simp only [H72, hc]
      simp [C.F72_0, hii, cons_spec t2, hwi]
      exact ih (by omega) _ (by simp [H72, hll])
  refine wpk_loop (wpl_mono (loop l.length (by omega) _ ?_) ?_)
  · simp [H72, Obj.lst, Obj.zero, Obj.cells, Sym.none]
  rintro x fin ⟨rfl, h3, h4, h5, h6, h7, h8, h9⟩
  simp [h3, h4, h5, h6, h7, h8, h9]

include tm
def Sym.names : List Str := [[97], [98], [102, 111, 111], [111, 100, 100, 32, 110, 97, 109, 101], [49], [120, 124, 121], [46], [45, 50, 47, 51], [35]]
def Sym.ofNat (k : Nat) : Sym := if k < 9 then Sym.user (Sym.names.getD k []) else if k = 9 then Sym.lisp [110, 105, 108] else if k = 10 then Sym.lisp [116] else if k = 11 then Sym.lisp [99, 97, 114] else Sym.lisp [113, 117, 111, 116, 101]

theorem symOf_spec (n : Int) (stk : List Boxes) : callW gl prog prims (I 67) [.int .i64 n] stk = some (.agg (Sym.ofNat (n % 13).toNat).cells, stk) := by
  refine callW_wp tm.h67.1 tm.h67.2 ?_
  have hm := mod_spec (gl := gl) tm n 13 (by omega) (by omega) []
  generalize hk : n % 13 = k at hm
  have h1 : 0 ≤ k := by omega
  have h2 : k < 13 := by omega
  obtain ⟨j, rfl⟩ : ∃ j : Nat, k = j := ⟨k.toNat, by omega⟩
  have hj : j < 13 := by omega
  have : j = 0 ∨ j = 1 ∨ j = 2 ∨ j = 3 ∨ j = 4 ∨ j = 5 ∨ j = 6 ∨ j = 7 ∨ j = 8 ∨ j = 9 ∨ j = 10 ∨ j = 11 ∨ j = 12 := by omega
  have w13 : IntKind.i64.wrap 13 = 13 := rfl
  have w10 : IntKind.i64.wrap 10 = 10 := rfl
  have w11 : IntKind.i64.wrap 11 = 11 := rfl
  simp [C.F67, w13, w10, w11, hm]
  rcases this with rfl | rfl | rfl | rfl | rfl | rfl | rfl | rfl | rfl | rfl | rfl | rfl | rfl <;> simp [w13, w10, w11, user_spec tm, lisp_spec t2, Sym.ofNat, Sym.names]
end
end Go.Vs

namespace Go.Vs
open Go
set_option linter.unusedSimpArgs false
set_option linter.unusedVariables false

namespace R1
def w (n : Int) : Int := IntKind.i64.wrap n

def digB (c : Nat) : Bool := decide (48 ≤ c) && decide (c ≤ 57)

def valid (s : Str) : Bool :=
  if s = [48] then true else
    let f := if s.head? = some 45 then 1 else 0
    match s[f]? with
    | none => false
    | some c => if c = 48 then false else (s.drop f).all digB

def dig (c : Nat) : Int := w (IntKind.u8.wrap ((c : Int) - 48))

def digL (s : Str) (lo : Nat) : Nat → List Int
  | 0 => []
  | i + 1 => if lo ≤ i then dig (s.getD i 0) :: digL s lo i else []

def digits (s : Str) : Bool × List Int :=
  if valid s = false ∨ s = [48] then (false, []) else
    let neg := decide (s.head? = some 45)
    (neg, digL s (if neg then 1 else 0) s.length)

def trimN (d : List Int) : Nat → Nat
  | 0 => 0
  | n + 1 => if d.getD n 0 = 0 then trimN d n else n + 1
def trim (d : List Int) : List Int := d.take (trimN d d.length)

def ord (a b : List Int) : Nat → Int
  | 0 => 0
  | i + 1 => if a.getD i 0 < b.getD i 0 then -1 else if b.getD i 0 < a.getD i 0 then 1 else ord a b i
def order (a b : List Int) : Int := if a.length = b.length then ord a b a.length else if a.length < b.length then -1 else 1

def minL : List Int → List Int → Int → List Int
  | [], _, _ => []
  | x :: a, b, o =>
    let s := match b with
      | [] => w (x - o)
      | y :: _ => w (w (x - o) - y)
    if s < 0 then w (s + 10) :: minL a b.tail 1 else s :: minL a b.tail 0
def minus (a b : List Int) : List Int := trim (minL a b 0)

def big : Nat := 1000000

def overI (b : List Int) : Nat → List Int → Int → Option (List Int × Int)
  | 0, _, _ => none
  | n + 1, r, q => if big ≤ r.length then none else if 0 ≤ order r b then overI b n (minus r b) (w (q + 1)) else some (r, q)

def overO (b a : List Int) (fuel : Nat) : Nat → List Int → Option (List Int × List Int)
  | 0, r => some ([], r)
  | i + 1, r => match (if big ≤ r.length then none else overI b fuel (trim (a.getD i 0 :: r)) 0) with
    | none => none
    | some (r', v) => match overO b a fuel i r' with
      | none => none
      | some (qs, r'') => some (qs ++ [v], r'')

def over (fuel : Nat) (a b : List Int) : Option (List Int × List Int) :=
  if big ≤ a.length ∨ big ≤ b.length then none else match overO b a fuel a.length [] with
  | none => none
  | some (q, r) => if big ≤ q.length then none else some (trim q, r)

def gcdF (fuel : Nat) : Nat → List Int → List Int → Option (List Int)
  | 0, _, _ => none
  | n + 1, d, e => if e.length = 0 then some d else match over fuel d e with
    | none => none
    | some (_, r) => gcdF fuel n e r

def byt (x : Int) : Int := IntKind.u8.wrap (w (48 + x))
def txtL (d : List Int) : Nat → List Int
  | 0 => []
  | i + 1 => byt (d.getD i 0) :: txtL d i
def text (neg : Bool) (d : List Int) : Str :=
  let d := trim d
  if d.length = 0 then [48] else (if neg then [45] else []) ++ (txtL d d.length).map Int.toNat

def gcd (fuel : Nat) (a b : Str) : Option Str := match gcdF fuel fuel (digits a).2 (digits b).2 with
  | none => none
  | some d => if big ≤ d.length then none else some (text false d)

def reduce (fuel : Nat) (num den : Str) : Option (Str × Str) :=
  if big ≤ num.length ∨ big ≤ den.length then none else
  if (digits den).2.length = 0 then some ([48], [49]) else match gcd fuel num den with
  | none => none
  | some g => if big ≤ g.length then none else match over fuel (digits num).2 (digits g).2, over fuel (digits den).2 (digits g).2 with
    | some (d, _), some (e, _) => if big ≤ d.length ∨ big ≤ e.length then none else some (text ((digits num).1 != (digits den).1) d, text false e)
    | _, _ => none
end R1

section
variable {gl : Globs} {prog : Prog} {prims : Prims} {I J : Nat → Nat} (t1 : TabRef1 prog prims I J)

def H126 (s : Str) (stk : List Boxes) (i : Nat) : St := { env := ofList [(0, .str s), (4, .int .i64 i)], bx := ofListB [], nb := fun _ => none, stk := stk }

include t1
theorem valid_spec (s : Str) (hs : s.length < R1.big) (stk : List Boxes) : callW gl prog prims (I 126) [.str s] stk = some (.bool (R1.valid s), stk) := by
  refine callW_wp t1.h126.1 t1.h126.2 ?_
  have hs' : s.length < 1000000 := hs
  by_cases h0 : s = [48]
  · subst h0; simp [C.F126, R1.valid]
  have loop : ∀ (q : List Nat) (i : Nat), s.drop i = q → ∀ s0, project [0, 4] [] s0 = some (H126 s stk i) →
      wpl gl (callW gl prog prims) [0, 4] [] (C.F126_0 I J) s0 fun x fin => fin.stk = stk ∧ if q.all R1.digB = true then x = .exit 0 else x = .ret ∧ fin.env 2 = .bool false := by
    intro q
    induction q with
    | nil =>
      intro i hd s0 hp0
      have hi := drop_nil hd
      have hi' : ¬ (i < s.length) := by omega
      refine wpl_step hp0 ?_
      simp [C.F126_0, H126, hi']
    | cons c q ih =>
      intro i hd s0 hp0
      obtain ⟨hi, hx, hd2, hm⟩ := drop_cons hd
      refine wpl_step hp0 ?_
      have hwi : IntKind.i64.wrap ((i : Int) + 1) = (i : Int) + 1 := wrap64 _ (by omega) (by omega)
      simp [C.F126_0, H126, hi, hx]
      by_cases h1 : c < 48
      · have h1' : ((c : Int) < 48) := by omega
        have h1'' : ¬ 48 ≤ c := by omega
        simp [h1', R1.digB, h1'']
      · have h1' : ¬ ((c : Int) < 48) := by omega
        have h1'' : 48 ≤ c := by omega
        by_cases h2 : 57 < c
        · have h2' : (57 < (c : Int)) := by omega
          have h2'' : ¬ c ≤ 57 := by omega
          simp [h1', h2', R1.digB, h2'', h1'', hi, hx]
        · have h2' : ¬ (57 < (c : Int)) := by omega
          have h2'' : c ≤ 57 := by omega
          simp [h1', h2', R1.digB, h2'', h1'', hi, hx, hwi]
          exact wpl_mono (ih (i + 1) hd2 _ (by simp [H126])) (by simp [R1.digB])
  cases s with
  | nil => simp [C.F126, R1.valid]
  | cons c r =>
    simp [C.F126, h0]
    by_cases hc : c = 45
    · subst hc
      simp
      cases r with
      | nil => simp [R1.valid]
      | cons c2 r2 =>
        by_cases h2 : c2 = 48
        · subst h2
          simp [R1.valid, show ¬ ((r2.length : Int) + 1 + 1 ≤ 1) by omega]
        · have h2' : ((c2 : Int) == 48) = false := by simp; omega
          simp [h2', show ¬ ((r2.length : Int) + 1 + 1 ≤ 1) by omega]
          refine wpk_loop (wpl_mono (loop _ 1 rfl _ (by simp [H126])) ?_)
          rintro x fin ⟨h3, h4⟩
          cases hb : (List.drop 1 (45 :: c2 :: r2)).all R1.digB with
          | true => rw [hb] at h4; simp only [if_true] at h4; subst h4; simp at hb; simp [h3, R1.valid, h2, hb]; exact hb.2
          | false => rw [hb] at h4; simp at h4; simp at hb; simp [h4, h3, R1.valid, h2]; exact hb
    · have hc' : ((c : Int) == 45) = false := by simp; omega
      simp [hc', show ¬ ((r.length : Int) + 1 ≤ 0) by omega]
      by_cases h2 : c = 48
      · subst h2
        simp at h0
        simp [R1.valid, h0]
      · have h2' : ((c : Int) == 48) = false := by simp; omega
        simp [h2']
        refine wpk_loop (wpl_mono (loop _ 0 rfl _ (by simp [H126])) ?_)
        rintro x fin ⟨h3, h4⟩
        cases hb : (List.drop 0 (c :: r)).all R1.digB with
        | true => rw [hb] at h4; simp only [if_true] at h4; subst h4; simp at hb; simp [h3, R1.valid, h2, hc, hb]; exact hb.2
        | false => rw [hb] at h4; simp at h4; simp at hb; simp [h4, h3, R1.valid, h2, hc]; exact hb

def H106 (s : Str) (neg : Bool) (lo : Nat) (acc : List Int) (stk : List Boxes) (i : Int) : St := { env := ofList [(0, .str s), (4, .bool neg), (5, .int .i64 lo), (6, accA 1 (iv acc)), (7, .int .i64 i)], bx := ofListB [], nb := fun _ => none, stk := stk }

omit t1 in
theorem digits_loop (s : Str) (hs : s.length < R1.big) (neg : Bool) (lo : Nat) (stk : List Boxes) : ∀ (i : Nat) (acc : List Int), i ≤ s.length → acc.length + i ≤ s.length → ∀ s0, project [0, 4, 5, 6, 7] [] s0 = some (H106 s neg lo acc stk ((i : Int) - 1)) →
    wpl gl (callW gl prog prims) [0, 4, 5, 6, 7] [] (C.F106_0 I J) s0 fun x fin => x = .exit 0 ∧ fin.stk = stk ∧ fin.env 4 = .bool neg ∧ fin.env 6 = accA 1 (iv (acc ++ R1.digL s lo i)) := by
  have hs' : s.length < 1000000 := hs
  intro i
  induction i with
  | zero =>
    intro acc hi hq s0 hp0
    refine wpl_step hp0 ?_
    have : ¬ ((lo : Int) ≤ -1) := by omega
    simp [C.F106_0, H106, this, R1.digL]
  | succ i ih =>
    intro acc hi hq s0 hp0
    refine wpl_step hp0 ?_
    have hc : ((i + 1 : Nat) : Int) - 1 = (i : Int) := by omega
    have hwi := wrap64 ((i : Int) - 1) (by omega) (by omega)
    have hii : i < s.length := by omega
    have hcap : acc.length + 1 ≤ maxCount := by unfold maxCount; omega
    have hcap1 : 1 ≤ maxCount := by unfold maxCount; omega
    simp only [H106, hc]
    by_cases hlo : lo ≤ i
    · rcases acc_cases 1 (iv acc) with ⟨e, e2⟩ | ⟨e, e2⟩ <;> simp at e2 <;> simp [C.F106_0, hlo, hii, hwi, e, hcap, hcap1]
      · subst e2
        exact wpl_mono (ih [R1.dig s[i]] (by omega) (by simp; omega) _ (by simp [H106, R1.dig, R1.w])) (by simp [R1.digL, hlo, hii])
      · exact wpl_mono (ih (acc ++ [R1.dig s[i]]) (by omega) (by simp; omega) _ (by simp [H106, R1.dig, R1.w])) (by simp [R1.digL, hlo, hii])
    · simp [C.F106_0, hlo, R1.digL]

omit t1 in
theorem digL_len (s : Str) (lo : Nat) : ∀ i, (R1.digL s lo i).length ≤ i
  | 0 => by simp [R1.digL]
  | i + 1 => by
    have := digL_len s lo i
    simp only [R1.digL]
    split
    · simp; omega
    · simp

omit t1 in
theorem digits_len (s : Str) : (R1.digits s).2.length ≤ s.length := by
  unfold R1.digits
  split
  · simp
  · dsimp only
    exact digL_len _ _ _

theorem digits_spec (s : Str) (hs : s.length < R1.big) (stk : List Boxes) : callW gl prog prims (I 106) [.str s] stk = some (.tup [.bool (R1.digits s).1, .slice (iv (R1.digits s).2)], stk) := by
  refine callW_wp t1.h106.1 t1.h106.2 ?_
  have hs' : s.length < 1000000 := hs
  cases hv : R1.valid s with
  | false => simp [C.F106, valid_spec t1 s hs, hv, R1.digits]
  | true =>
    by_cases h0 : s = [48]
    · subst h0
      have hv2 := valid_spec (gl := gl) t1 [48] hs []
      rw [hv] at hv2
      simp [C.F106, hv2, R1.digits]
    · simp [C.F106, valid_spec t1 s hs, hv, R1.digits, h0]
      cases s with
      | nil => simp [R1.valid] at hv
      | cons c r =>
        have hw := wrap64 ((r.length : Int) + 1 - 1) (by simp at hs'; omega) (by simp at hs'; omega)
        by_cases hc : c = 45
        · subst hc
          simp
          refine wpk_loop (wpl_mono (digits_loop (45 :: r) hs true 1 stk (45 :: r).length [] (by omega) (by simp) _ (by simp at hw; simp [H106, hw])) ?_)
          rintro x fin ⟨rfl, h3, h4, h5⟩
          simp [h3, h4, h5]
        · have hc' : ((c : Int) == 45) = false := by simp; omega
          simp [hc', hc]
          refine wpk_loop (wpl_mono (digits_loop (c :: r) hs false 0 stk (c :: r).length [] (by omega) (by simp) _ (by simp at hw; simp [H106, hw])) ?_)
          rintro x fin ⟨rfl, h3, h4, h5⟩
          simp [h3, h4, h5]

def H127 (d : List Int) (stk : List Boxes) (i : Nat) : St := { env := ofList [(0, .slice (iv d)), (3, .int .i64 i)], bx := ofListB [], nb := fun _ => none, stk := stk }

omit t1 in
theorem trimN_le (d : List Int) : ∀ n, R1.trimN d n ≤ n
  | 0 => by simp [R1.trimN]
  | n + 1 => by
    have := trimN_le d n
    simp only [R1.trimN]
    split <;> omega

theorem trim_spec (d : List Int) (hd : d.length < 10000000) (stk : List Boxes) : callW gl prog prims (I 127) [.slice (iv d)] stk = some (.slice (iv (R1.trim d)), stk) := by
  refine callW_wp t1.h127.1 t1.h127.2 ?_
  simp [C.F127]
  have loop : ∀ (i : Nat), i ≤ d.length → ∀ s0, project [0, 3] [] s0 = some (H127 d stk i) →
      wpl gl (callW gl prog prims) [0, 3] [] (C.F127_0 I J) s0 fun x fin => x = .exit 0 ∧ fin.stk = stk ∧ fin.env 0 = .slice (iv d) ∧ fin.env 3 = .int .i64 (R1.trimN d i) := by
    intro i
    induction i with
    | zero =>
      intro hi s0 hp0
      refine wpl_step hp0 ?_
      simp [C.F127_0, H127, R1.trimN]
    | succ i ih =>
      intro hi s0 hp0
      refine wpl_step hp0 ?_
      have hii : i < d.length := by omega
      have hw := wrap64 ((i : Int) + 1 - 1) (by omega) (by omega)
      simp at hw
      have h0 : (0 : Int) < (i : Int) + 1 := by omega
      simp [C.F127_0, H127, h0, hw, hii]
      refine wpc_split (fun h => ?_) (fun h => ?_)
      · simp at h
        simp [hw]
        exact wpl_mono (ih (by omega) _ (by simp [H127])) (by simp [R1.trimN, h, hii])
      · simp at h
        simp [R1.trimN, h, hii]
  refine wpk_loop (wpl_mono (loop d.length (by omega) _ (by simp [H127])) ?_)
  rintro x fin ⟨rfl, h3, h4, h5⟩
  have := trimN_le d d.length
  simp [h3, h4, h5, this, R1.trim]

def H128 (a b : List Int) (stk : List Boxes) (i : Int) : St := { env := ofList [(0, .slice (iv a)), (1, .slice (iv b)), (5, .int .i64 i)], bx := ofListB [], nb := fun _ => none, stk := stk }

theorem order_spec (a b : List Int) (ha : a.length < 10000000) (stk : List Boxes) : callW gl prog prims (I 128) [.slice (iv a), .slice (iv b)] stk = some (.int .i64 (R1.order a b), stk) := by
  refine callW_wp t1.h128.1 t1.h128.2 ?_
  simp [C.F128]
  refine wpc_split (fun h => ?_) (fun h => ?_)
  · simp at h
    simp
    have h' : ¬ a.length = b.length := by omega
    refine wpc_split (fun h2 => ?_) (fun h2 => ?_)
    · simp at h2
      simp [R1.order, h', h2]
    · simp at h2
      have : ¬ a.length < b.length := by omega
      simp [R1.order, h', this]
  simp at h
  have h' : a.length = b.length := by omega
  have hw := wrap64 ((a.length : Int) - 1) (by omega) (by omega)
  simp
  have loop : ∀ (i : Nat), i ≤ a.length → ∀ s0, project [0, 1, 5] [] s0 = some (H128 a b stk ((i : Int) - 1)) →
      wpl gl (callW gl prog prims) [0, 1, 5] [] (C.F128_0 I J) s0 fun x fin => fin.stk = stk ∧ if R1.ord a b i = 0 then x = .exit 0 else x = .ret ∧ fin.env 4 = .int .i64 (R1.ord a b i) := by
    intro i
    induction i with
    | zero =>
      intro hi s0 hp0
      refine wpl_step hp0 ?_
      simp [C.F128_0, H128, R1.ord]
    | succ i ih =>
      intro hi s0 hp0
      refine wpl_step hp0 ?_
      have hii : i < a.length := by omega
      have hii2 : i < b.length := by omega
      have hc : ((i + 1 : Nat) : Int) - 1 = (i : Int) := by omega
      have hw := wrap64 ((i : Int) - 1) (by omega) (by omega)
      simp only [H128, hc]
      by_cases h1 : a[i] < b[i]
      · simp [C.F128_0, hii, hii2, h1, R1.ord]
      · by_cases h2 : b[i] < a[i]
        · simp [C.F128_0, hii, hii2, h1, h2, R1.ord]
        · simp [C.F128_0, hii, hii2, h1, h2, hw]
          exact wpl_mono (ih (by omega) _ (by simp [H128])) (by simp [R1.ord, hii, hii2, h1, h2])
  refine wpk_loop (wpl_mono (loop a.length (by omega) _ (by simp [H128, hw])) ?_)
  rintro x fin ⟨h3, h4⟩
  by_cases h0 : R1.ord a b a.length = 0
  · rw [if_pos h0] at h4; subst h4; simp [h3, R1.order, h', h0]
    rw [← h', h0]
  · rw [if_neg h0] at h4; simp [h3, R1.order, h', h4]

def H129 (a b acc : List Int) (o : Int) (stk : List Boxes) (i : Nat) : St := { env := ofList [(0, .slice (iv a)), (1, .slice (iv b)), (5, accA 1 (iv acc)), (6, .int .i64 o), (7, .int .i64 i)], bx := ofListB [], nb := fun _ => none, stk := stk }

omit t1 in
theorem minL_len : ∀ (a b : List Int) (o : Int), (R1.minL a b o).length = a.length
  | [], b, o => by simp [R1.minL]
  | x :: a, b, o => by
    cases b with
    | nil =>
      simp only [R1.minL]
      by_cases h : R1.w (x - o) < 0 <;> simp [h, minL_len a]
    | cons y b =>
      simp only [R1.minL]
      by_cases h : R1.w (R1.w (x - o) - y) < 0 <;> simp [h, minL_len a]

theorem minus_spec (a b : List Int) (ha : a.length < 10000000) (hb : b.length < 10000000) (stk : List Boxes) : callW gl prog prims (I 129) [.slice (iv a), .slice (iv b)] stk = some (.slice (iv (R1.minus a b)), stk) := by
  refine callW_wp t1.h129.1 t1.h129.2 ?_
  simp [C.F129]
  have loop : ∀ (q q' : List Int) (i : Nat) (acc : List Int) (o : Int), a.drop i = q → b.drop i = q' → acc.length = i → ∀ s0, project [0, 1, 5, 6, 7] [] s0 = some (H129 a b acc o stk i) →
      wpl gl (callW gl prog prims) [0, 1, 5, 6, 7] [] (C.F129_0 I J) s0 fun x fin => x = .exit 0 ∧ fin.stk = stk ∧ fin.env 5 = accA 1 (iv (acc ++ R1.minL q q' o)) := by
    intro q
    induction q with
    | nil =>
      intro q' i acc o hq hq' hal s0 hp0
      have hl := drop_nil hq
      refine wpl_step hp0 ?_
      have : ¬ i < a.length := by omega
      simp [C.F129_0, H129, this, R1.minL]
    | cons x q ih =>
      intro q' i acc o hq hq' hal s0 hp0
      obtain ⟨hi, hx, hq2, hm⟩ := drop_cons hq
      have hw := wrap64 ((i : Int) + 1) (by omega) (by omega)
      have hcap : acc.length + 1 ≤ maxCount := by unfold maxCount; omega
      have hcap1 : 1 ≤ maxCount := by unfold maxCount; omega
      refine wpl_step hp0 ?_
      cases q' with
      | nil =>
        have hl := drop_nil hq'
        have hnb : ¬ i < b.length := by omega
        have hq3 : b.drop (i + 1) = [] := List.drop_eq_nil_of_le (by omega)
        by_cases hs : R1.w (x - o) < 0
        · have hs' : IntKind.i64.wrap (x - o) < 0 := hs
          rcases acc_cases 1 (iv acc) with ⟨e, e2⟩ | ⟨e, e2⟩ <;> simp at e2 <;> simp [C.F129_0, H129, hi, hx, hnb, hs', e, hcap, hcap1, hw] <;>
            exact wpl_mono (ih [] (i + 1) (acc ++ [R1.w (R1.w (x - o) + 10)]) 1 hq2 hq3 (by simp [hal]) _ (by simp [H129, e2, R1.w])) (by simp [R1.minL, hs, e2])
        · have hs' : ¬ IntKind.i64.wrap (x - o) < 0 := hs
          rcases acc_cases 1 (iv acc) with ⟨e, e2⟩ | ⟨e, e2⟩ <;> simp at e2 <;> simp [C.F129_0, H129, hi, hx, hnb, hs', e, hcap, hcap1, hw] <;>
            exact wpl_mono (ih [] (i + 1) (acc ++ [R1.w (x - o)]) 0 hq2 hq3 (by simp [hal]) _ (by simp [H129, e2, R1.w])) (by simp [R1.minL, hs, e2])
      | cons y r =>
        obtain ⟨hib, hy, hq3, _⟩ := drop_cons hq'
        by_cases hs : R1.w (R1.w (x - o) - y) < 0
        · have hs' : IntKind.i64.wrap (IntKind.i64.wrap (x - o) - y) < 0 := hs
          rcases acc_cases 1 (iv acc) with ⟨e, e2⟩ | ⟨e, e2⟩ <;> simp at e2 <;> simp [C.F129_0, H129, hi, hx, hib, hy, hs', e, hcap, hcap1, hw] <;>
            exact wpl_mono (ih r (i + 1) (acc ++ [R1.w (R1.w (R1.w (x - o) - y) + 10)]) 1 hq2 hq3 (by simp [hal]) _ (by simp [H129, e2, R1.w])) (by simp [R1.minL, hs, e2])
        · have hs' : ¬ IntKind.i64.wrap (IntKind.i64.wrap (x - o) - y) < 0 := hs
          rcases acc_cases 1 (iv acc) with ⟨e, e2⟩ | ⟨e, e2⟩ <;> simp at e2 <;> simp [C.F129_0, H129, hi, hx, hib, hy, hs', e, hcap, hcap1, hw] <;>
            exact wpl_mono (ih r (i + 1) (acc ++ [R1.w (R1.w (x - o) - y)]) 0 hq2 hq3 (by simp [hal]) _ (by simp [H129, e2, R1.w])) (by simp [R1.minL, hs, e2])
  refine wpk_loop (wpl_mono (loop a b 0 [] 0 rfl rfl rfl _ (by simp [H129])) ?_)
  rintro x fin ⟨rfl, h3, h4⟩
  have := trim_spec (gl := gl) t1 (R1.minL a b 0) (by rw [minL_len]; exact ha) []
  simp [h3, h4, this, R1.minus]

def H108 (a b r Q : List Int) (stk : List Boxes) (i : Int) : St := { env := ofList [(0, .slice (iv a)), (1, .slice (iv b)), (6, .asl (.loc 11) Q.length), (7, .slice (iv r)), (8, .int .i64 i)], bx := ofListB [(6, none), (11, some (.arr false 1 (iv Q)))], nb := fun _ => none, stk := stk }

theorem over_inner (a b : List Int) (hb : b.length < R1.big) (stk : List Boxes) (i : Nat) : ∀ (n : Nat) (r : List Int) (q : Int) (r' : List Int) (q' : Int) (Q : List Int), R1.overI b n r q = some (r', q') → Q[i]? = some q → ∀ s0, project [0, 1, 6, 7, 8] [6, 11] s0 = some (H108 a b r Q stk i) →
    wpl gl (callW gl prog prims) [0, 1, 6, 7, 8] [6, 11] (C.F108_0 I J) s0 fun x fin => x = .exit 2 ∧ PJ [0, 1, 6, 7, 8] [6, 11] fin (H108 a b r' (Q.set i q') stk i) := by
  intro n
  induction n with
  | zero => intro r q r' q' Q h; simp [R1.overI] at h
  | succ n ih =>
    intro r q r' q' Q h hQ s0 hp0
    simp only [R1.overI] at h
    by_cases hbig : R1.big ≤ r.length
    · simp [hbig] at h
    rw [if_neg hbig] at h
    have hr : r.length < 1000000 := by unfold R1.big at hbig; omega
    have hb' : b.length < 1000000 := hb
    have ho := order_spec (gl := gl) t1 r b (by omega) []
    have hm := minus_spec (gl := gl) t1 r b (by omega) (by omega) []
    obtain ⟨hi, hq⟩ := List.getElem?_eq_some_iff.1 hQ
    refine wpl_step hp0 ?_
    by_cases h0 : 0 ≤ R1.order r b
    · rw [if_pos h0] at h
      simp [C.F108_0, H108, ho, h0, hm, hi, hq]
      refine wpl_mono (ih (R1.minus r b) (R1.w (q + 1)) r' q' (Q.set i (R1.w (q + 1))) h (by simp [hi]) _ (by simp [H108, R1.w])) ?_
      rintro x fin ⟨h1, h2⟩
      rw [List.set_set] at h2
      exact ⟨h1, by simpa [H108] using h2⟩
    · rw [if_neg h0] at h
      obtain ⟨rfl, rfl⟩ : r = r' ∧ q = q' := by simpa using h
      have : Q.set i q = Q := by rw [← hq]; simp
      simp [C.F108_0, H108, ho, h0, this, PJ]

theorem overI_len (b : List Int) : ∀ (n : Nat) (r : List Int) (q : Int) (r' : List Int) (q' : Int), R1.overI b n r q = some (r', q') → r'.length < R1.big
  | 0, _, _, _, _, h => by simp [R1.overI] at h
  | n + 1, r, q, r', q', h => by
    simp only [R1.overI] at h
    by_cases hbig : R1.big ≤ r.length
    · simp [hbig] at h
    rw [if_neg hbig] at h
    split at h
    · exact overI_len b n _ _ _ _ h
    · obtain ⟨rfl, rfl⟩ : r = r' ∧ q = q' := by simpa using h
      omega

theorem over_outer (a b : List Int) (ha : a.length < R1.big) (hb : b.length < R1.big) (stk : List Boxes) (fuel : Nat) : ∀ (i : Nat) (r qs r' : List Int) (dn : List Int), i ≤ a.length → R1.overO b a fuel i r = some (qs, r') → ∀ s0, project [0, 1, 6, 7, 8] [6, 11] s0 = some (H108 a b r (List.replicate i 0 ++ dn) stk ((i : Int) - 1)) →
    wpl gl (callW gl prog prims) [0, 1, 6, 7, 8] [6, 11] (C.F108_1 I J) s0 fun x fin => x = .exit 0 ∧ fin.stk = stk ∧ fin.env 6 = .asl (.loc 11) (qs ++ dn).length ∧ fin.env 7 = .slice (iv r') ∧ fin.bx 11 = some (.arr false 1 (iv (qs ++ dn))) ∧ fin.nb 11 = none := by
  intro i
  induction i with
  | zero =>
    intro r qs r' dn hi h s0 hp0
    simp only [R1.overO, Option.some.injEq, Prod.mk.injEq] at h
    obtain ⟨rfl, rfl⟩ := h
    refine wpl_step hp0 ?_
    simp [C.F108_1, H108]
  | succ i ih =>
    intro r qs r' dn hi h s0 hp0
    simp only [R1.overO] at h
    by_cases hbig : R1.big ≤ r.length
    · simp [hbig] at h
    rw [if_neg hbig] at h
    cases h1 : R1.overI b fuel (R1.trim (a.getD i 0 :: r)) 0 with
    | none => rw [h1] at h; cases h
    | some p =>
      obtain ⟨r1, v⟩ := p
      simp only [h1] at h
      cases h2 : R1.overO b a fuel i r1 with
      | none => rw [h2] at h; cases h
      | some p =>
        obtain ⟨qs1, r2⟩ := p
        simp only [h2, Option.some.injEq, Prod.mk.injEq] at h
        obtain ⟨rfl, rfl⟩ := h
        have hr : r.length < 1000000 := by unfold R1.big at hbig; omega
        have ha' : a.length < 1000000 := ha
        have hii : i < a.length := by omega
        have hc : ((i + 1 : Nat) : Int) - 1 = (i : Int) := by omega
        have hw := wrap64 ((i : Int) - 1) (by omega) (by omega)
        have hcap : 1 + r.length ≤ maxCount := by unfold maxCount; omega
        have ht := trim_spec (gl := gl) t1 (a[i] :: r) (by simp; omega) []
        simp at ht
        have hg : a.getD i 0 = a[i] := by simp [hii]
        rw [hg] at h1
        refine wpl_step hp0 ?_
        simp only [H108, hc]
        simp [C.F108_1, hii, hcap, ht]
        refine wpk_loop (wpl_mono (over_inner t1 a b hb stk i fuel _ 0 r1 v (List.replicate (i + 1) 0 ++ dn) h1 (by rw [List.getElem?_append_left (by simp)]; simp) _ (by simp [H108])) ?_)
        rintro x fin ⟨rfl, h3⟩
        have e0 := project_env h3 0 (by simp)
        have e1 := project_env h3 1 (by simp)
        have e6 := project_env h3 6 (by simp)
        have e7 := project_env h3 7 (by simp)
        have e8 := project_env h3 8 (by simp)
        have b6 := project_bx h3 6 (by simp)
        have b11 := project_bx h3 11 (by simp)
        have es := project_stk h3
        simp [H108] at e0 e1 e6 e7 e8 b6 b11 es
        have hset : (List.replicate (i + 1) (0 : Int)).set i v = List.replicate i 0 ++ [v] := by
          rw [List.replicate_succ']; simp
        have hlen : i + 1 + dn.length = i + (dn.length + 1) := by omega
        simp [e0, e1, e6, e7, e8, b6, b11, es, hw]
        refine wpl_mono (ih r1 qs1 r2 (v :: dn) (by omega) h2 _ ?_) (by simp)
        simp [H108, e0, e1, e6, e7, b6, b11, es, hset, hlen]

theorem over_spec (fuel : Nat) (a b : List Int) (q r : List Int) (h : R1.over fuel a b = some (q, r)) (stk : List Boxes) : callW gl prog prims (I 108) [.slice (iv a), .slice (iv b)] stk = some (.tup [.slice (iv q), .slice (iv r)], stk) := by
  refine callW_wp t1.h108.1 t1.h108.2 ?_
  unfold R1.over at h
  by_cases hbig : R1.big ≤ a.length ∨ R1.big ≤ b.length
  · simp [hbig] at h
  rw [if_neg hbig] at h
  cases h1 : R1.overO b a fuel a.length [] with
  | none => rw [h1] at h; cases h
  | some p =>
    obtain ⟨qs, r1⟩ := p
    rw [h1] at h
    by_cases hq : R1.big ≤ qs.length
    · simp [hq] at h
    simp only [if_neg hq, Option.some.injEq, Prod.mk.injEq] at h
    obtain ⟨rfl, rfl⟩ := h
    have ha : a.length < 1000000 := by unfold R1.big at hbig; omega
    have hq' : qs.length < 1000000 := by unfold R1.big at hq; omega
    have hcap : a.length ≤ maxCount := by unfold maxCount; omega
    have hw := wrap64 ((a.length : Int) - 1) (by omega) (by omega)
    have ht := trim_spec (gl := gl) t1 qs (by omega) []
    simp [C.F108, hcap, hw]
    refine wpk_loop (wpl_mono (over_outer t1 a b (by omega) (by omega) stk fuel a.length [] qs r1 [] (by omega) h1 _ (by simp [H108])) ?_)
    rintro x fin ⟨rfl, h3, h4, h5, h6, h7⟩
    simp at h4 h6
    simp [h3, h4, h5, h6, h7, ht]

def H107 (d e : List Int) (stk : List Boxes) : St := { env := ofList [(6, .slice (iv d)), (8, .slice (iv e))], bx := ofListB [], nb := fun _ => none, stk := stk }

theorem gcd_loop (fuel : Nat) (stk : List Boxes) : ∀ (n : Nat) (d e g : List Int), R1.gcdF fuel n d e = some g → ∀ s0, project [6, 8] [] s0 = some (H107 d e stk) →
    wpl gl (callW gl prog prims) [6, 8] [] (C.F107_0 I J) s0 fun x fin => x = .exit 0 ∧ fin.stk = stk ∧ fin.env 6 = .slice (iv g) := by
  intro n
  induction n with
  | zero => intro d e g h; simp [R1.gcdF] at h
  | succ n ih =>
    intro d e g h s0 hp0
    simp only [R1.gcdF] at h
    refine wpl_step hp0 ?_
    by_cases he : e.length = 0
    · rw [if_pos he] at h
      obtain rfl : d = g := by simpa using h
      simp [C.F107_0, H107, he]
    · rw [if_neg he] at h
      cases h1 : R1.over fuel d e with
      | none => rw [h1] at h; cases h
      | some p =>
        obtain ⟨q, r⟩ := p
        rw [h1] at h
        have ho := over_spec (gl := gl) t1 fuel d e q r h1 []
        have he' : 0 < e.length := by omega
        simp [C.F107_0, H107, he', ho]
        exact wpl_mono (ih e r g h _ (by simp [H107])) (by simp)

def H109 (d : List Int) (acc : List Int) (stk : List Boxes) (i : Int) : St := { env := ofList [(1, .slice (iv d)), (5, accA 1 (acc.map (AV.int .u8))), (6, .int .i64 i)], bx := ofListB [], nb := fun _ => none, stk := stk }

theorem text_loop (d : List Int) (hd : d.length < 10000000) (stk : List Boxes) : ∀ (i : Nat) (acc : List Int), i ≤ d.length → acc.length + i < 10000010 → ∀ s0, project [1, 5, 6] [] s0 = some (H109 d acc stk ((i : Int) - 1)) →
    wpl gl (callW gl prog prims) [1, 5, 6] [] (C.F109_0 I J) s0 fun x fin => x = .exit 0 ∧ fin.stk = stk ∧ fin.env 5 = accA 1 ((acc ++ R1.txtL d i).map (AV.int .u8)) := by
  intro i
  induction i with
  | zero =>
    intro acc hi hq s0 hp0
    refine wpl_step hp0 ?_
    simp [C.F109_0, H109, R1.txtL]
  | succ i ih =>
    intro acc hi hq s0 hp0
    refine wpl_step hp0 ?_
    have hc : ((i + 1 : Nat) : Int) - 1 = (i : Int) := by omega
    have hwi := wrap64 ((i : Int) - 1) (by omega) (by omega)
    have hii : i < d.length := by omega
    have hcap : acc.length + 1 ≤ maxCount := by unfold maxCount; omega
    have hcap1 : 1 ≤ maxCount := by unfold maxCount; omega
    simp only [H109, hc]
    rcases acc_cases 1 (acc.map (AV.int .u8)) with ⟨e, e2⟩ | ⟨e, e2⟩ <;> simp at e2 <;> simp [C.F109_0, hii, hwi, e, hcap, hcap1] <;>
      exact wpl_mono (ih (acc ++ [R1.byt d[i]]) (by omega) (by simp; omega) _ (by simp [H109, R1.byt, R1.w, e2])) (by simp [R1.txtL, hii])

omit t1 in
theorem bytesOf_u8 : ∀ (l : List Int), (∀ x ∈ l, 0 ≤ x ∧ x < 256) → bytesOf (l.map (AV.int .u8)) = some (l.map Int.toNat)
  | [], _ => rfl
  | x :: l, h => by
    obtain ⟨h1, h2⟩ := h x (by simp)
    obtain ⟨n, rfl⟩ : ∃ n : Nat, x = n := ⟨x.toNat, by omega⟩
    have hn : n < 256 := by omega
    have := bytesOf_u8 l (fun y hy => h y (by simp [hy]))
    simp [bytesOf, hn, this]

omit t1 in
theorem byt_rng (x : Int) : 0 ≤ R1.byt x ∧ R1.byt x < 256 := by
  simp [R1.byt, IntKind.wrap, IntKind.bits, IntKind.signed]
  omega

omit t1 in
theorem txtL_rng (d : List Int) : ∀ i, ∀ x ∈ R1.txtL d i, 0 ≤ x ∧ x < 256
  | 0 => by simp [R1.txtL]
  | i + 1 => by
    intro x hx
    simp only [R1.txtL, List.mem_cons] at hx
    rcases hx with rfl | hx
    · exact byt_rng _
    · exact txtL_rng d i x hx

theorem textd_spec (neg : Bool) (d : List Int) (hd : d.length < R1.big) (stk : List Boxes) : callW gl prog prims (I 109) [.bool neg, .slice (iv d)] stk = some (.str (R1.text neg d), stk) := by
  refine callW_wp t1.h109.1 t1.h109.2 ?_
  have hd' : d.length < 1000000 := hd
  have ht := trim_spec (gl := gl) t1 d (by omega) []
  have hl : (R1.trim d).length ≤ d.length := by simp [R1.trim]; omega
  simp [C.F109, ht]
  by_cases h0 : (R1.trim d).length = 0
  · simp [R1.text, h0]
  · have hw := wrap64 (((R1.trim d).length : Int) - 1) (by omega) (by omega)
    have hcap1 : 1 ≤ maxCount := by unfold maxCount; omega
    have hb := bytesOf_u8 (R1.txtL (R1.trim d) (R1.trim d).length) (txtL_rng _ _)
    have hb0 : (((R1.trim d).length : Int) == 0) = false := by rw [beq_eq_false_iff_ne]; omega
    simp [hb0]
    cases neg with
    | false =>
      simp
      refine wpk_loop (wpl_mono (text_loop t1 (R1.trim d) (by omega) stk (R1.trim d).length [] (by omega) (by simp; omega) _ (by simp [H109, hw])) ?_)
      rintro x fin ⟨rfl, h3, h4⟩
      simp [h3, h4, R1.text, h0, hb]
    | true =>
      simp [hcap1]
      refine wpk_loop (wpl_mono (text_loop t1 (R1.trim d) (by omega) stk (R1.trim d).length [45] (by omega) (by simp; omega) _ (by simp [H109, hw])) ?_)
      rintro x fin ⟨rfl, h3, h4⟩
      have hb2 := bytesOf_u8 (45 :: R1.txtL (R1.trim d) (R1.trim d).length) (by
        intro x hx
        rcases List.mem_cons.1 hx with rfl | hx
        · omega
        · exact txtL_rng _ _ x hx)
      simp at hb2
      simp [h3, h4, R1.text, h0, hb2]

theorem gcd_spec (fuel : Nat) (a b g : Str) (ha : a.length < R1.big) (hb : b.length < R1.big) (h : R1.gcd fuel a b = some g) (stk : List Boxes) : callW gl prog prims (I 107) [.str a, .str b] stk = some (.str g, stk) := by
  refine callW_wp t1.h107.1 t1.h107.2 ?_
  unfold R1.gcd at h
  have hda := digits_spec (gl := gl) t1 a ha []
  have hdb := digits_spec (gl := gl) t1 b hb []
  cases h1 : R1.gcdF fuel fuel (R1.digits a).2 (R1.digits b).2 with
  | none => rw [h1] at h; cases h
  | some d =>
    rw [h1] at h
    by_cases hq : R1.big ≤ d.length
    · simp [hq] at h
    simp only [if_neg hq, Option.some.injEq] at h
    subst h
    have ht := textd_spec (gl := gl) t1 false d (by omega) []
    simp [C.F107, hda, hdb]
    refine wpk_loop (wpl_mono (gcd_loop t1 fuel stk fuel _ _ d h1 _ (by simp [H107])) ?_)
    rintro x fin ⟨rfl, h3, h4⟩
    simp [h3, h4, ht]

theorem reduce_spec (fuel : Nat) (a b c d : Str) (h : R1.reduce fuel a b = some (c, d)) (stk : List Boxes) : callW gl prog prims (I 89) [.str a, .str b] stk = some (.tup [.str c, .str d], stk) := by
  refine callW_wp t1.h89.1 t1.h89.2 ?_
  unfold R1.reduce at h
  by_cases hbig : R1.big ≤ a.length ∨ R1.big ≤ b.length
  · simp [hbig] at h
  rw [if_neg hbig] at h
  have hda := digits_spec (gl := gl) t1 a (by omega) []
  have hdb := digits_spec (gl := gl) t1 b (by omega) []
  by_cases h0 : (R1.digits b).2.length = 0
  · rw [if_pos h0] at h
    obtain ⟨rfl, rfl⟩ : [48] = c ∧ [49] = d := by simpa using h
    simp [C.F89, hdb, h0]
  rw [if_neg h0] at h
  have hb0 : (((R1.digits b).2.length : Int) == 0) = false := by rw [beq_eq_false_iff_ne]; omega
  cases hg : R1.gcd fuel a b with
  | none => rw [hg] at h; cases h
  | some g =>
    rw [hg] at h
    simp only at h
    have hgs := gcd_spec (gl := gl) t1 fuel a b g (by omega) (by omega) hg []
    by_cases hgb : R1.big ≤ g.length
    · simp [hgb] at h
    rw [if_neg hgb] at h
    have hdg := digits_spec (gl := gl) t1 g (by omega) []
    cases h1 : R1.over fuel (R1.digits a).2 (R1.digits g).2 with
    | none => rw [h1] at h; cases h
    | some p =>
      obtain ⟨d1, r1⟩ := p
      cases h2 : R1.over fuel (R1.digits b).2 (R1.digits g).2 with
      | none => rw [h1, h2] at h; cases h
      | some p =>
        obtain ⟨e1, r2⟩ := p
        rw [h1, h2] at h
        simp only at h
        by_cases hq : R1.big ≤ d1.length ∨ R1.big ≤ e1.length
        · simp [hq] at h
        rw [if_neg hq] at h
        obtain ⟨rfl, rfl⟩ : _ = c ∧ _ = d := by simpa using h
        have o1 := over_spec (gl := gl) t1 fuel _ _ _ _ h1 []
        have o2 := over_spec (gl := gl) t1 fuel _ _ _ _ h2 []
        have t3 := textd_spec (gl := gl) t1 (!((R1.digits a).1 == (R1.digits b).1)) d1 (by omega) []
        have t4 := textd_spec (gl := gl) t1 false e1 (by omega) []
        simp [C.F89, hda, hdb, hb0, hgs, hdg, o1, o2, t3, t4, bne]
end
end Go.Vs

namespace Go.Vs
open Go
set_option linter.unusedSimpArgs false
set_option linter.unusedVariables false

def decF : Nat → Nat → Str
  | 0, _ => []
  | n + 1, u => if u < 10 then [48 + u] else decF n (u / 10) ++ [48 + u % 10]
/-- The decimal of an integer. -/
def itoa (n : Int) : Str := if n < 0 then 45 :: decF 20 n.natAbs else decF 20 n.toNat

def itoaP : List AV → Option AV
  | [.int .i64 n] => if -9223372036854775808 ≤ n ∧ n ≤ 9223372036854775807 then some (.str (itoa n)) else none
  | _ => none

def Obj.rat (n d : Str) : Obj := match R1.reduce 20 n d with
  | some (c, d) => Obj.num c d
  | none => Obj.zero
def Obj.int (n : Int) : Obj := Obj.rat (itoa n) [49]

mutual
def Raw.obj : Raw → Obj
  | .mk k n s l => if k % 8 = 0 ∨ k % 8 = 1 then Obj.int (n % 2001 - 1000) else if k % 8 = 2 then Obj.rat (itoa (n % 41 - 20)) (itoa (1 + s.length))
    else if k % 8 = 3 then Obj.symb (Sym.ofNat (n % 13).toNat) else if k % 8 = 4 then Obj.txt s
    else if k % 8 = 5 then Obj.cons ((Raw.objs l).getD 0 (Obj.int (-1000))) ((Raw.objs l).getD 1 (Obj.int (-1000)))
    else Obj.lst (Raw.objs l)
def Raw.objs : List Raw → List Obj
  | [] => []
  | r :: l => r.obj :: Raw.objs l
end

mutual
/-- Trees as small as the laws ask for. -/
def Raw.small : Raw → Prop
  | .mk _ _ s l => s.length ≤ 12 ∧ l.length ≤ 6 ∧ Raw.smalls l
def Raw.smalls : List Raw → Prop
  | [] => True
  | r :: l => r.small ∧ Raw.smalls l
end

theorem Raw.objs_eq : ∀ l : List Raw, Raw.objs l = l.map Raw.obj
  | [] => rfl
  | r :: l => by simp [Raw.objs, Raw.objs_eq l]

theorem Raw.smalls_mem : ∀ {l : List Raw}, Raw.smalls l → ∀ r ∈ l, r.small
  | [], _, r, h => by simp at h
  | b :: l, h, r, hm => by
    rcases List.mem_cons.1 hm with rfl | hm
    · exact h.1
    · exact Raw.smalls_mem h.2 r hm

mutual
theorem Raw.few_small : ∀ (r : Raw) (m : Int), 0 ≤ r.left m → r.small
  | .mk k n s l, m, h => by
    simp only [Raw.left] at h
    split at h
    · omega
    · exact ⟨by omega, by omega, Raw.fews_small l (m - 1) h⟩
theorem Raw.fews_small : ∀ (l : List Raw) (m : Int), 0 ≤ Raw.lefts l m → Raw.smalls l
  | [], m, h => trivial
  | r :: l, m, h => by
    simp only [Raw.lefts] at h
    split at h
    · rename_i hm
      have h2 := Raw.fews_small l _ h
      refine ⟨Raw.few_small r m ?_, h2⟩
      -- a negative rest stays negative
      rcases Int.lt_or_le (r.left m) 0 with hn | hn
      · exfalso
        have : Raw.lefts l (r.left m) = r.left m := by
          cases l with
          | nil => rfl
          | cons a l => simp only [Raw.lefts]; rw [if_neg (by omega)]
        omega
      · exact hn
    · omega
end

section
variable {gl : Globs} {prog : Prog} {prims : Prims} {I J : Nat → Nat} (tm : TabMake prog prims I J) (t2 : TabRef2 prog prims I J) (t1 : TabRef1 prog prims I J) (tp : prims (I 88) = some itoaP)

include t1 tp
theorem fromInt_spec (n : Int) (h1 : -1000000 ≤ n) (h2 : n ≤ 1000000) (stk : List Boxes) : callW gl prog prims (I 65) [.int .i64 n] stk = some (.str (itoa n), stk) := by
  refine callW_wp t1.h65.1 t1.h65.2 ?_
  have := callW_prim (gl := gl) (prog := prog) (args := [.int .i64 n]) (v := .str (itoa n)) tp (by simp only [itoaP]; rw [if_pos (by omega)]) []
  simp [C.F65, this]

include t2
theorem rational_spec (n d : Str) (h : (R1.reduce 20 n d).isSome = true) (stk : List Boxes) : callW gl prog prims (I 66) [.str n, .str d] stk = some (.agg (Obj.rat n d).cells, stk) := by
  refine callW_wp t2.h66.1 t2.h66.2 ?_
  obtain ⟨⟨c, e⟩, hc⟩ := Option.isSome_iff_exists.1 h
  have := reduce_spec (gl := gl) t1 20 n d c e hc []
  simp [C.F66, this, Obj.rat, hc, Obj.num, Obj.cells, Sym.none]
end
end Go.Vs

namespace Go.Vs
open Go
set_option linter.unusedSimpArgs false
set_option linter.unusedVariables false

theorem dig_rng (c : Nat) (h : R1.digB c = true) : 0 ≤ R1.dig c ∧ R1.dig c < 10 := by
  simp [R1.digB] at h
  simp [R1.dig, R1.w, IntKind.wrap, IntKind.bits, IntKind.signed]
  omega

theorem digL_rng (s : Str) (lo : Nat) (h : (s.drop lo).all R1.digB = true) : ∀ i, i ≤ s.length → ∀ x ∈ R1.digL s lo i, 0 ≤ x ∧ x < 10
  | 0, _ => by simp [R1.digL]
  | i + 1, hi => by
    intro x hx
    simp only [R1.digL] at hx
    split at hx
    · rename_i hlo
      rcases List.mem_cons.1 hx with rfl | hx
      · apply dig_rng
        rw [List.all_eq_true] at h
        refine h _ ?_
        have : i < s.length := by omega
        rw [List.getD_eq_getElem?_getD, List.getElem?_eq_getElem this]
        rw [List.mem_iff_getElem]
        exact ⟨i - lo, by simp; omega, by simp; congr 1; omega⟩
      · exact digL_rng s lo h i (by omega) x hx
    · simp at hx

theorem digits_rng (s : Str) : ∀ x ∈ (R1.digits s).2, 0 ≤ x ∧ x < 10 := by
  unfold R1.digits
  split
  · simp
  · rename_i h
    dsimp only
    have hv : R1.valid s = true := by cases hv : R1.valid s <;> simp_all
    refine digL_rng s _ ?_ _ (Nat.le_refl _)
    have h48 : ¬ s = [48] := fun e => h (.inr e)
    unfold R1.valid at hv
    rw [if_neg h48] at hv
    simp only at hv
    split at hv
    · cases hv
    · split at hv
      · cases hv
      · simpa using hv

theorem ov1 (x : Int) (h : 0 ≤ x ∧ x < 10) : R1.overI [1] 20 (R1.trim [x]) 0 = some ([], x) := by
  have : x = 0 ∨ x = 1 ∨ x = 2 ∨ x = 3 ∨ x = 4 ∨ x = 5 ∨ x = 6 ∨ x = 7 ∨ x = 8 ∨ x = 9 := by omega
  rcases this with rfl | rfl | rfl | rfl | rfl | rfl | rfl | rfl | rfl | rfl <;> decide +kernel

theorem ovO1 (d : List Int) (h : ∀ x ∈ d, 0 ≤ x ∧ x < 10) : ∀ i, i ≤ d.length → R1.overO [1] d 20 i [] = some (d.take i, [])
  | 0, _ => rfl
  | i + 1, hi => by
    have hii : i < d.length := by omega
    have e : d.getD i 0 = d[i] := by simp [hii]
    have hb : ¬ R1.big ≤ ([] : List Int).length := by simp [R1.big]
    simp only [R1.overO, if_neg hb, e]
    rw [ov1 _ (h _ (List.getElem_mem hii))]
    simp only
    rw [ovO1 d h i (by omega)]
    simp

theorem over1 (d : List Int) (h : ∀ x ∈ d, 0 ≤ x ∧ x < 10) (hl : d.length < R1.big) : R1.over 20 d [1] = some (R1.trim d, []) := by
  unfold R1.over
  rw [if_neg (by simp [R1.big] at hl ⊢; omega), ovO1 d h _ (Nat.le_refl _)]
  simp
  omega

theorem reduce1 (n : Str) (hn : n.length < R1.big) : R1.reduce 20 n [49] = some (R1.text (R1.digits n).1 (R1.trim (R1.digits n).2), [49]) := by
  have hd := digits_rng n
  have hl := digits_len n
  have e49 : R1.digits [49] = (false, [1]) := by decide +kernel
  have ov := over1 _ hd (by omega)
  have g : R1.gcd 20 n [49] = some [49] := by
    unfold R1.gcd
    rw [e49]
    have : R1.gcdF 20 20 (R1.digits n).2 [1] = some [1] := by
      rw [show (20 : Nat) = 18 + 1 + 1 from rfl]
      simp only [R1.gcdF]
      rw [show (18 + 1 + 1 : Nat) = 20 from rfl, ov]
      rfl
    simp only [this]
    decide +kernel
  have ov2 : R1.over 20 [1] [1] = some ([1], []) := by decide +kernel
  unfold R1.reduce
  rw [if_neg (by simp [R1.big] at hn ⊢; omega)]
  rw [e49]
  simp only [g]
  rw [e49]
  simp only [ov, ov2]
  have hlt : (R1.trim (R1.digits n).2).length ≤ (R1.digits n).2.length := by simp [R1.trim]; omega
  rw [if_neg (by simp), if_neg (by simp [R1.big]), if_neg (by simp [R1.big] at hn ⊢; omega)]
  have : R1.text false [1] = [49] := by decide +kernel
  simp [this]

theorem decF_len : ∀ n u, (decF n u).length ≤ n
  | 0, _ => by simp [decF]
  | n + 1, u => by
    simp only [decF]
    split
    · simp
    · have := decF_len n (u / 10)
      simp; omega

theorem itoa_len (n : Int) : (itoa n).length < R1.big := by
  unfold itoa R1.big
  split
  · have := decF_len 20 n.natAbs
    simp; omega
  · have := decF_len 20 n.toNat
    omega

theorem int_tot (n : Int) : (R1.reduce 20 (itoa n) [49]).isSome = true := by rw [reduce1 _ (itoa_len n)]; rfl

def totR (m : Nat) : Bool := (List.range 41).all fun k => (R1.reduce 20 (itoa ((k : Int) - 20)) (itoa m)).isSome
theorem tot1 : totR 1 = true := by decide +kernel
theorem tot2 : totR 2 = true := by decide +kernel
theorem tot3 : totR 3 = true := by decide +kernel
theorem tot4 : totR 4 = true := by decide +kernel
theorem tot5 : totR 5 = true := by decide +kernel
theorem tot6 : totR 6 = true := by decide +kernel
theorem tot7 : totR 7 = true := by decide +kernel
theorem tot8 : totR 8 = true := by decide +kernel
theorem tot9 : totR 9 = true := by decide +kernel
theorem tot10 : totR 10 = true := by decide +kernel
theorem tot11 : totR 11 = true := by decide +kernel
theorem tot12 : totR 12 = true := by decide +kernel
theorem tot13 : totR 13 = true := by decide +kernel

theorem rat_tot (n : Int) (m : Nat) (h1 : -20 ≤ n) (h2 : n ≤ 20) (h3 : 1 ≤ m) (h4 : m ≤ 13) : (R1.reduce 20 (itoa n) (itoa m)).isSome = true := by
  have key : totR m = true := by
    have : m = 1 ∨ m = 2 ∨ m = 3 ∨ m = 4 ∨ m = 5 ∨ m = 6 ∨ m = 7 ∨ m = 8 ∨ m = 9 ∨ m = 10 ∨ m = 11 ∨ m = 12 ∨ m = 13 := by omega
    rcases this with rfl | rfl | rfl | rfl | rfl | rfl | rfl | rfl | rfl | rfl | rfl | rfl | rfl
    · exact tot1
    · exact tot2
    · exact tot3
    · exact tot4
    · exact tot5
    · exact tot6
    · exact tot7
    · exact tot8
    · exact tot9
    · exact tot10
    · exact tot11
    · exact tot12
    · exact tot13
  unfold totR at key
  rw [List.all_eq_true] at key
  have := key (n + 20).toNat (by simp; omega)
  rwa [show (((n + 20).toNat : Int) - 20) = n by omega] at this
end Go.Vs

namespace Go.Vs
open Go
set_option linter.unusedSimpArgs false
set_option linter.unusedVariables false
section
variable {gl : Globs} {prog : Prog} {prims : Prims} {I J : Nat → Nat} (tm : TabMake prog prims I J) (t2 : TabRef2 prog prims I J) (t1 : TabRef1 prog prims I J) (tp : prims (I 88) = some itoaP)

include t1 tp t2
theorem int_spec (n : Int) (h1 : -1000000 ≤ n) (h2 : n ≤ 1000000) (stk : List Boxes) : callW gl prog prims (I 64) [.int .i64 n] stk = some (.agg (Obj.int n).cells, stk) := by
  refine callW_wp t2.h64.1 t2.h64.2 ?_
  have e1 := fromInt_spec (gl := gl) t1 tp n h1 h2 []
  have e2 := rational_spec (gl := gl) t2 t1 tp (itoa n) [49] (int_tot n) []
  simp [C.F64, e1, e2, Obj.int]

def H24 (k n : Int) (s : Str) (l : List Raw) (acc : List Obj) (stk : List Boxes) (i : Nat) : St :=
  { env := ofList [(1, .ptr (.loc 1) 0), (2, .ptr (.loc 2) 0), (3, accA 7 (acc.map fun o => .agg o.cells)), (4, .int .i64 i)], bx := ofListB [(1, some (.cells (Raw.mk k n s l).cells)), (2, some (.cells Obj.zero.cells))], nb := fun _ => none, stk := stk }

include tm
theorem object_zero (stk : List Boxes) : callW gl prog prims (I 24) [.agg (Raw.mk 0 0 [] []).cells] stk = some (.agg (Raw.mk 0 0 [] []).obj.cells, stk) := by
  refine callW_wp tm.h24.1 tm.h24.2 ?_
  have hm := mod_spec (gl := gl) tm 0 8 (by omega) (by omega) []
  have e1 := mod_spec (gl := gl) tm 0 2001 (by omega) (by omega) []
  have hw := wrap64 (-1000) (by omega) (by omega)
  have e2 := int_spec (gl := gl) t2 t1 tp (-1000) (by omega) (by omega) []
  simp [C.F24, Raw.cells, Raw.obj] at hm e1 ⊢
  simp [hm, e1, hw, e2]

theorem object_spec : ∀ (r : Raw), r.small → ∀ stk, callW gl prog prims (I 24) [.agg r.cells] stk = some (.agg r.obj.cells, stk)
  | .mk k n s l, hsm, stk => by
    refine callW_wp tm.h24.1 tm.h24.2 ?_
    have hm := mod_spec (gl := gl) tm k 8 (by omega) (by omega) []
    have hk1 : 0 ≤ k % 8 := by omega
    have hk2 : k % 8 < 8 := by omega
    simp only [Raw.obj]
    generalize k % 8 = j at hm hk1 hk2
    simp [C.F24, Raw.cells, hm]
    by_cases h0 : j = 0
    · subst h0
      have e1 := mod_spec (gl := gl) tm n 2001 (by omega) (by omega) []
      have hw := wrap64 (n % 2001 - 1000) (by omega) (by omega)
      have e2 := int_spec (gl := gl) t2 t1 tp (n % 2001 - 1000) (by omega) (by omega) []
      simp [e1, hw, e2]
    have b0 : (j == 0) = false := by simpa using h0
    simp [b0, h0]
    by_cases h1 : j = 1
    · subst h1
      have e1 := mod_spec (gl := gl) tm n 2001 (by omega) (by omega) []
      have hw := wrap64 (n % 2001 - 1000) (by omega) (by omega)
      have e2 := int_spec (gl := gl) t2 t1 tp (n % 2001 - 1000) (by omega) (by omega) []
      simp [e1, hw, e2]
    have b1 : (j == 1) = false := by simpa using h1
    simp [b1, h1]
    by_cases h2 : j = 2
    · subst h2
      have e1 := mod_spec (gl := gl) tm n 41 (by omega) (by omega) []
      have hw := wrap64 (n % 41 - 20) (by omega) (by omega)
      have hs := hsm.1
      have hw2 := wrap64 (1 + s.length) (by omega) (by omega)
      have e2 := fromInt_spec (gl := gl) t1 tp (n % 41 - 20) (by omega) (by omega) []
      have e3 := fromInt_spec (gl := gl) t1 tp (1 + s.length) (by omega) (by omega) []
      have e4 := rational_spec (gl := gl) t2 t1 tp (itoa (n % 41 - 20)) (itoa (1 + s.length)) (by have := rat_tot (n % 41 - 20) (1 + s.length) (by omega) (by omega) (by omega) (by omega); simpa using this) []
      simp [e1, hw, hw2, e2, e3, e4]
    have b2 : (j == 2) = false := by simpa using h2
    simp [b2, h2]
    by_cases h3 : j = 3
    · subst h3
      have e1 := symOf_spec (gl := gl) tm t2 n []
      have e2 := symbol_spec (gl := gl) t2 (Sym.ofNat (n % 13).toNat) []
      simp [e1, e2]
    have b3 : (j == 3) = false := by simpa using h3
    simp [b3, h3]
    by_cases h4 : j = 4
    · subst h4
      have e1 := text_spec (gl := gl) t2 s []
      simp [e1]
    have b4 : (j == 4) = false := by simpa using h4
    simp [b4, h4]
    by_cases h5 : j = 5
    · subst h5
      have hpart : ∀ i, ∀ stk, callW gl prog prims (I 24) [.agg (Raw.part l i).cells] stk = some (.agg ((Raw.objs l).getD i (Obj.int (-1000))).cells, stk) := by
        intro i stk
        rcases Nat.lt_or_ge i l.length with hi | hi
        · have hm : l[i] ∈ l := List.getElem_mem hi
          have := object_spec l[i] (Raw.smalls_mem hsm.2.2 _ hm) stk
          simpa [Raw.part, Raw.objs_eq, hi] using this
        · have := object_zero (gl := gl) tm t2 t1 tp stk
          simp only [Raw.part, Raw.objs_eq, List.getD_eq_getElem?_getD, List.getElem?_map, List.getElem?_eq_none hi, Option.getD_none, Option.map_none]
          rw [this]
          rfl
      have e1 := part_spec (gl := gl) tm k n s l 0 []
      have e2 := part_spec (gl := gl) tm k n s l 1 []
      have e3 := hpart 0 []
      have e4 := hpart 1 []
      have e5 := cons_spec (gl := gl) t2 ((Raw.objs l).getD 0 (Obj.int (-1000))) ((Raw.objs l).getD 1 (Obj.int (-1000))) []
      simp [Raw.cells] at e1 e2
      simp at e3 e4 e5
      simp [e1, e2, e3, e4, e5]
    have b5 : (j == 5) = false := by simpa using h5
    simp [b5, h5]
    have hl6 := hsm.2.1
    have loop : ∀ (q : List Raw) (i : Nat) (acc : List Obj), l.drop i = q → acc.length = i → ∀ s0, project [1, 2, 3, 4] [1, 2] s0 = some (H24 k n s l acc stk i) →
        wpl gl (callW gl prog prims) [1, 2, 3, 4] [1, 2] (C.F24_0 I J) s0 fun x fin => x = .exit 1 ∧ fin.stk = stk ∧ fin.env 2 = .ptr (.loc 2) 0 ∧ fin.env 3 = accA 7 ((acc ++ Raw.objs q).map fun o => .agg o.cells) ∧ fin.bx 2 = some (.cells Obj.zero.cells) ∧ fin.nb 2 = none := by
      intro q
      induction q with
      | nil =>
        intro i acc hq hal s0 hp0
        have hl := drop_nil hq
        refine wpl_step hp0 ?_
        have : ¬ i < l.length := by omega
        simp [H24, C.F24_0, Raw.cells, this, Raw.objs]
      | cons x q ih =>
        intro i acc hq hal s0 hp0
        obtain ⟨hi, hx, hq2, hm⟩ := drop_cons hq
        have hrec := object_spec x (Raw.smalls_mem hsm.2.2 _ hm) []
        have hw := wrap64 ((i : Int) + 1) (by omega) (by omega)
        have hcap : acc.length + 1 ≤ maxCount := by unfold maxCount; omega
        have hcap1 : 1 ≤ maxCount := by unfold maxCount; omega
        refine wpl_step hp0 ?_
        rcases acc_cases 7 (acc.map fun o => .agg o.cells) with ⟨e, e2⟩ | ⟨e, e2⟩ <;> simp at e2 <;> simp [H24, C.F24_0, Raw.cells, hi, hx, hrec, e, hcap, hcap1, hw] <;>
          exact wpl_mono (ih (i + 1) (acc ++ [x.obj]) hq2 (by simp [hal]) _ (by simp [H24, Raw.cells, e2])) (by simp [Raw.objs])
    refine wpk_loop (wpl_mono (loop l 0 [] rfl rfl _ (by simp [H24, Raw.cells, Obj.zero, Obj.cells, Sym.none])) ?_)
    rintro x fin ⟨rfl, h3, h4, h5, h6, h7⟩
    have e1 := list_spec (gl := gl) t2 (Raw.objs l) [] (by rw [Raw.objs_eq]; simp; omega)
    simp at h5
    simp [h3, h4, h5, h6, h7, e1]
termination_by r => SizeOf.sizeOf r
decreasing_by
  all_goals
    have := List.sizeOf_lt_of_mem hm
    simp
    omega
end
end Go.Vs

namespace Go.Vs
open Go
set_option linter.unusedSimpArgs false
set_option linter.unusedVariables false

structure TabRef8 (prog : Prog) (prims : Prims) (I J : Nat → Nat) : Prop where
  h14 : prims (I 14) = none ∧ prog (I 14) = some (C.F14 I J)
  h15 : prims (I 15) = none ∧ prog (I 15) = some (C.F15 I J)
  h18 : prims (I 18) = none ∧ prog (I 18) = some (C.F18 I J)
  h20 : prims (I 20) = none ∧ prog (I 20) = some (C.F20 I J)
  h23 : prims (I 23) = none ∧ prog (I 23) = some (C.F23 I J)
  h26 : prims (I 26) = none ∧ prog (I 26) = some (C.F26 I J)
  h28 : prims (I 28) = none ∧ prog (I 28) = some (C.F28 I J)
  h30 : prims (I 30) = none ∧ prog (I 30) = some (C.F30 I J)
  h32 : prims (I 32) = none ∧ prog (I 32) = some (C.F32 I J)
  h35 : prims (I 35) = none ∧ prog (I 35) = some (C.F35 I J)
  h36 : prims (I 36) = none ∧ prog (I 36) = some (C.F36 I J)
  h39 : prims (I 39) = none ∧ prog (I 39) = some (C.F39 I J)
  h41 : prims (I 41) = none ∧ prog (I 41) = some (C.F41 I J)
  h54 : prims (I 54) = none ∧ prog (I 54) = some (C.F54 I J)
  h55 : prims (I 55) = none ∧ prog (I 55) = some (C.F55 I J)
  h56 : prims (I 56) = none ∧ prog (I 56) = some (C.F56 I J)
  h62 : prims (I 62) = none ∧ prog (I 62) = some (C.F62 I J)
  h63 : prims (I 63) = none ∧ prog (I 63) = some (C.F63 I J)

theorem trm_cells (k : Int) (s : Sym) (v : Obj) (a : List Trm) : (Trm.mk k s v a).cells = .int .i64 k :: .str s.pkg :: .str s.name :: (v.cells ++ [.slice (a.map fun o => .agg o.cells)]) := by
  cases v; simp [Trm.cells, Obj.cells]
theorem obj_take7 (o : Obj) (l : List AV) : List.take 7 (o.cells ++ l) = o.cells := by cases o; rfl
theorem obj_drop7 (o : Obj) (l : List AV) : List.drop 7 (o.cells ++ l) = l := by cases o; rfl
theorem obj_get7 (o : Obj) (l : List AV) : (o.cells ++ l)[7]? = l[0]? := by cases o; rfl
theorem obj_take8 (o : Obj) (x : AV) : List.take 8 (o.cells ++ [x]) = o.cells ++ [x] := by cases o; rfl
theorem obj_pursA (o : Obj) (l : List AV) : purs (o.cells ++ [.slice l]) = some (o.cells ++ [.slice l]) := by cases o; rfl
attribute [simp] obj_take8 obj_pursA
attribute [simp] obj_take7 obj_drop7 obj_get7

theorem obj_zero_cells : Obj.zero.cells = [.int .i64 0, .str [], .str [], .str [], .str [], .str [], .slice []] := rfl
theorem trm_zero_cells : Trm.zero.cells = [.int .i64 0, .str [], .str [], .int .i64 0, .str [], .str [], .str [], .str [], .str [], .slice [], .slice []] := rfl

/-- The arguments of a call. -/
def Trm.argl : Trm → List Trm
  | .mk k _ _ a => if k = 3 then a else []

section
variable {gl : Globs} {prog : Prog} {prims : Prims} {I J : Nat → Nat} (t8 : TabRef8 prog prims I J) (t2 : TabRef2 prog prims I J)
include t8

theorem r8_var (s : Sym) (stk : List Boxes) : callW gl prog prims (I 26) [.agg s.cells] stk = some (.agg (Trm.var s).cells, stk) := by
  refine callW_wp t8.h26.1 t8.h26.2 ?_
  simp [C.F26, Trm.var, trm_cells, obj_zero_cells, Sym.cells]

theorem r8_const (o : Obj) (stk : List Boxes) : callW gl prog prims (I 28) [.agg o.cells] stk = some (.agg (Trm.const o).cells, stk) := by
  refine callW_wp t8.h28.1 t8.h28.2 ?_
  simp [C.F28, Trm.const, trm_cells, Sym.none]

theorem r8_app (s : Sym) (l : List Trm) (stk : List Boxes) : callW gl prog prims (I 30) [.agg s.cells, .slice (l.map fun o => .agg o.cells)] stk = some (.agg (Trm.app s l).cells, stk) := by
  refine callW_wp t8.h30.1 t8.h30.2 ?_
  simp [C.F30, Trm.app, trm_cells, obj_zero_cells, Sym.cells]

theorem r8_args (t : Trm) (stk : List Boxes) : callW gl prog prims (I 62) [.agg t.cells] stk = some (.slice (t.argl.map fun o => .agg o.cells), stk) := by
  refine callW_wp t8.h62.1 t8.h62.2 ?_
  obtain ⟨k, s, v, a⟩ := t
  simp [C.F62, trm_cells]
  refine wpc_split (fun h => ?_) (fun h => ?_)
  · simp at h; simp [Trm.argl, h]
  · simp at h; simp [Trm.argl, h]

include t2
theorem r8_lisp (n : Str) (l : List Trm) (stk : List Boxes) : callW gl prog prims (I 32) [.str n, .slice (l.map fun o => .agg o.cells)] stk = some (.agg (Trm.app (Sym.lisp n) l).cells, stk) := by
  refine callW_wp t8.h32.1 t8.h32.2 ?_
  have e1 := lisp_spec (gl := gl) t2 n []
  have e2 := r8_app (gl := gl) t8 (Sym.lisp n) l []
  simp [C.F32, e1, e2]

def H56 (p p' : List Trm) (stk : List Boxes) (i : Nat) : St :=
  { env := ofList [(0, .slice (p.map fun o => .agg o.cells)), (1, .slice (p'.map fun o => .agg o.cells)), (5, .int .i64 i)], bx := ofListB [], nb := fun _ => none, stk := stk }

mutual
theorem r8_equal : ∀ (a b : Trm), a.ok → ∀ stk, callW gl prog prims (I 15) [.agg a.cells, .agg b.cells] stk = some (.bool (Trm.eq a b), stk)
  | .mk k s v a, .mk k' s' v' a', hok, stk => by
    refine callW_wp t8.h15.1 t8.h15.2 ?_
    have e1 := ref2_equal (gl := gl) t2.h46.1 t2.h46.2 v v' [] hok.1
    have e2 := r8_equalAll a a' hok.2.1 hok.2.2 []
    by_cases h0 : k = k'
    · by_cases h1 : s.pkg = s'.pkg
      · by_cases h2 : s.name = s'.name
        · by_cases h3 : Obj.eq v v' = true
          · simp [C.F15, trm_cells, h0, h1, h2, e1, h3, e2, Trm.eq]
          · simp at h3
            simp [C.F15, trm_cells, h0, h1, h2, e1, h3, Trm.eq]
        · simp [C.F15, trm_cells, h0, h1, h2, Trm.eq]
      · simp [C.F15, trm_cells, h0, h1, Trm.eq]
    · have b0 : (k == k') = false := by simpa using h0
      simp [C.F15, trm_cells, h0, b0, Trm.eq]
termination_by a => SizeOf.sizeOf a
theorem r8_equalAll : ∀ (a b : List Trm), a.length < 1000000 → Trm.oks a → ∀ stk, callW gl prog prims (I 56) [.slice (a.map fun o => .agg o.cells), .slice (b.map fun o => .agg o.cells)] stk = some (.bool (Trm.eqs a b), stk)
  | p, p', hlen, hok, stk => by
    refine callW_wp t8.h56.1 t8.h56.2 ?_
    simp [C.F56]
    refine wpc_split (fun h => ?_) (fun h => ?_)
    · have e7 : Trm.eqs p p' = false := by rw [← Bool.not_eq_true, Trm.eqs_iff]; intro h2; simp [h2] at h
      simp [e7]
    simp at h
    simp
    have loop : ∀ (q q' : List Trm) (i : Nat), p.drop i = q → p'.drop i = q' → ∀ s0, project [0, 1, 5] [] s0 = some (H56 p p' stk i) →
        wpl gl (callW gl prog prims) [0, 1, 5] [] (C.F56_0 I J) s0 fun x s => s.stk = stk ∧ if Trm.eqs q q' = true then x = .exit 0 else x = .ret ∧ s.env 4 = .bool false := by
      intro q
      induction q with
      | nil =>
        intro q' i hq hq' s0 hp0
        have hl := drop_nil hq
        have : q' = [] := by rw [← hq']; exact List.drop_eq_nil_of_le (by omega)
        subst this
        refine wpl_step hp0 ?_
        have : ¬ i < p.length := by omega
        simp [H56, C.F56_0, this, Trm.eqs]
      | cons x q ih =>
        intro q' i hq hq' s0 hp0
        obtain ⟨hi, hx, hq2, hm⟩ := drop_cons hq
        have hi2 : i < p'.length := by omega
        obtain ⟨y, q'', rfl⟩ : ∃ y q'', q' = y :: q'' := by rw [List.drop_eq_getElem_cons hi2] at hq'; exact ⟨_, _, hq'.symm⟩
        obtain ⟨_, hy, hq3, _⟩ := drop_cons hq'
        have hrec := r8_equal x y (Trm.oks_mem hok _ hm) []
        have hw := wrap64 ((i : Int) + 1) (by omega) (by omega)
        refine wpl_step hp0 ?_
        simp [H56, C.F56_0, hi, hi2, hx, hy, hrec]
        refine wpc_split (fun h => ?_) (fun h => ?_)
        · simp at h
          simp [h, Trm.eqs]
        · simp at h
          simp [h, Trm.eqs, hw]
          exact ih _ (i + 1) hq2 hq3 _ (by simp [H56])
    refine wpk_loop (wpl_mono (loop p p' 0 rfl rfl _ (by simp [H56])) ?_)
    rintro x s ⟨h1, h2⟩
    cases he : Trm.eqs p p' with
    | true => simp [he] at h2; simp [h2, h1]
    | false => simp [he] at h2; simp [h2, h1]
termination_by a => SizeOf.sizeOf a
decreasing_by
  have := List.sizeOf_lt_of_mem hm
  omega
end

omit t8 t2 in
theorem Trm.eq_refl (a : Trm) : Trm.eq a a = true := (Trm.eq_iff a a).2 rfl

/-- The term that a substitution assigns to a variable. -/
def Asg.find : List Asg → Sym → Option Trm
  | [], _ => none
  | a :: l, s => if a.var.pkg = s.pkg ∧ a.var.name = s.name then some a.term else Asg.find l s

mutual
def Trm.subst (s : List Asg) : Trm → Trm
  | .mk k n v a => if k = 1 then (match Asg.find s n with
      | some t => t
      | none => .mk k n v a) else if k = 3 then .mk 3 n Obj.zero (Trm.substs s a) else .mk k n v a
def Trm.substs (s : List Asg) : List Trm → List Trm
  | [] => []
  | t :: l => t.subst s :: Trm.substs s l
end

def H54 (l : List Asg) (n : Sym) (stk : List Boxes) (i : Nat) : St :=
  { env := ofList [(0, .slice (l.map fun o => .agg o.cells)), (3, .ptr (.loc 3) 0), (4, .ptr (.loc 4) 0), (6, .int .i64 i)], bx := ofListB [(3, some (.cells n.cells)), (4, some (.cells Trm.zero.cells))], nb := fun _ => none, stk := stk }

omit t2
theorem asg_len (a : Asg) : a.cells.length = 13 := by simp [Asg.cells]
attribute [simp] asg_len

theorem r8_assigned (l : List Asg) (hl : l.length < 1000000000) (n : Sym) (stk : List Boxes) : callW gl prog prims (I 54) [.slice (l.map fun o => .agg o.cells), .agg n.cells] stk = some (match Asg.find l n with
    | some t => .tup [.agg t.cells, .bool true]
    | none => .tup [.agg Trm.zero.cells, .bool false], stk) := by
  refine callW_wp t8.h54.1 t8.h54.2 ?_
  simp [C.F54]
  have loop : ∀ (q : List Asg) (i : Nat), l.drop i = q → ∀ s0, project [0, 3, 4, 6] [3, 4] s0 = some (H54 l n stk i) →
      wpl gl (callW gl prog prims) [0, 3, 4, 6] [3, 4] (C.F54_0 I J) s0 fun x fin => fin.stk = stk ∧ fin.env 4 = .ptr (.loc 4) 0 ∧ fin.nb 4 = none ∧ match Asg.find q n with
        | some t => x = .ret ∧ fin.bx 4 = some (.cells t.cells) ∧ fin.env 5 = .bool true
        | none => x = .exit 0 ∧ fin.bx 4 = some (.cells Trm.zero.cells) := by
    intro q
    induction q with
    | nil =>
      intro i hq s0 hp0
      have hl := drop_nil hq
      refine wpl_step hp0 ?_
      have : ¬ i < l.length := by omega
      simp [H54, C.F54_0, this, Asg.find]
    | cons x q ih =>
      intro i hq s0 hp0
      obtain ⟨hi, hx, hq2, hm⟩ := drop_cons hq
      have hw := wrap64 ((i : Int) + 1) (by omega) (by omega)
      refine wpl_step hp0 ?_
      by_cases h1 : x.var.pkg = n.pkg
      · by_cases h2 : x.var.name = n.name
        · simp [H54, C.F54_0, hi, hx, Asg.cells, Sym.cells, h1, h2, Asg.find]
        · simp [H54, C.F54_0, hi, hx, Asg.cells, Sym.cells, h1, h2, Asg.find, hw]
          exact ih (i + 1) hq2 _ (by simp [H54, Sym.cells, Asg.cells])
      · simp [H54, C.F54_0, hi, hx, Asg.cells, Sym.cells, h1, Asg.find, hw]
        exact ih (i + 1) hq2 _ (by simp [H54, Sym.cells, Asg.cells])
  refine wpk_loop (wpl_mono (loop l 0 rfl _ (by simp [H54, trm_zero_cells])) ?_)
  rintro x s ⟨h1, h2, h3, h4⟩
  cases hf : Asg.find l n with
  | none => rw [hf] at h4; obtain ⟨rfl, h5⟩ := h4; simp [h1, h2, h3, h5, trm_zero_cells]
  | some t => rw [hf] at h4; obtain ⟨rfl, h5, h6⟩ := h4; simp [h1, h2, h3, h5, h6]

def H55 (l : List Trm) (s : List Asg) (acc : List Trm) (stk : List Boxes) (i : Nat) : St :=
  { env := ofList [(0, .slice (l.map fun o => .agg o.cells)), (1, .slice (s.map fun o => .agg o.cells)), (5, accA 11 (acc.map fun o => .agg o.cells)), (6, .int .i64 i)], bx := ofListB [], nb := fun _ => none, stk := stk }

mutual
theorem r8_subst (s : List Asg) (hs : s.length < 1000000000) : ∀ (t : Trm), t.ok → ∀ stk, callW gl prog prims (I 14) [.agg t.cells, .slice (s.map fun o => .agg o.cells)] stk = some (.agg (t.subst s).cells, stk)
  | .mk k n v a, hok, stk => by
    refine callW_wp t8.h14.1 t8.h14.2 ?_
    have e1 := r8_assigned (gl := gl) t8 s hs n []
    have e2 := r8_substAll s hs a hok.2.2 hok.2.1 []
    by_cases h1 : k = 1
    · subst h1
      cases hf : Asg.find s n with
      | none =>
        rw [hf] at e1
        simp [Sym.cells] at e1
        simp [C.F14, trm_cells, e1, Trm.subst, hf]
      | some t =>
        rw [hf] at e1
        simp [Sym.cells] at e1
        simp [C.F14, trm_cells, e1, Trm.subst, hf]
    · have b1 : (k == 1) = false := by simpa using h1
      by_cases h3 : k = 3
      · subst h3
        have e3 := r8_app (gl := gl) t8 n (Trm.substs s a) []
        simp [Sym.cells] at e3
        simp [C.F14, trm_cells, Trm.subst, e2, e3, Trm.app]
      · have b3 : (k == 3) = false := by simpa using h3
        simp [C.F14, trm_cells, b1, b3, Trm.subst, h1, h3]
termination_by t => SizeOf.sizeOf t
theorem r8_substAll (s : List Asg) (hs : s.length < 1000000000) : ∀ (l : List Trm), Trm.oks l → l.length < 1000000 → ∀ stk, callW gl prog prims (I 55) [.slice (l.map fun o => .agg o.cells), .slice (s.map fun o => .agg o.cells)] stk = some (.slice ((Trm.substs s l).map fun o => .agg o.cells), stk)
  | l, hok, hlen, stk => by
    refine callW_wp t8.h55.1 t8.h55.2 ?_
    simp [C.F55]
    have loop : ∀ (q : List Trm) (i : Nat) (acc : List Trm), l.drop i = q → acc.length = i → ∀ s0, project [0, 1, 5, 6] [] s0 = some (H55 l s acc stk i) →
        wpl gl (callW gl prog prims) [0, 1, 5, 6] [] (C.F55_0 I J) s0 fun x fin => x = .exit 0 ∧ fin.stk = stk ∧ fin.env 5 = accA 11 ((acc ++ Trm.substs s q).map fun o => .agg o.cells) := by
      intro q
      induction q with
      | nil =>
        intro i acc hq hal s0 hp0
        have hl := drop_nil hq
        refine wpl_step hp0 ?_
        have : ¬ i < l.length := by omega
        simp [H55, C.F55_0, this, Trm.substs]
      | cons x q ih =>
        intro i acc hq hal s0 hp0
        obtain ⟨hi, hx, hq2, hm⟩ := drop_cons hq
        have hrec := r8_subst s hs x (Trm.oks_mem hok _ hm) []
        have hw := wrap64 ((i : Int) + 1) (by omega) (by omega)
        have hcap : acc.length + 1 ≤ maxCount := by unfold maxCount; omega
        have hcap1 : 1 ≤ maxCount := by unfold maxCount; omega
        refine wpl_step hp0 ?_
        rcases acc_cases 11 (acc.map fun o => .agg o.cells) with ⟨e, e2⟩ | ⟨e, e2⟩ <;> simp at e2 <;> simp [H55, C.F55_0, hi, hx, hrec, e, hcap, hcap1, hw] <;>
          exact wpl_mono (ih (i + 1) (acc ++ [x.subst s]) hq2 (by simp [hal]) _ (by simp [H55, e2])) (by simp [Trm.substs])
    refine wpk_loop (wpl_mono (loop l 0 [] rfl rfl _ (by simp [H55])) ?_)
    rintro x fin ⟨rfl, h3, h4⟩
    simp at h4
    simp [h3, h4]
termination_by l => SizeOf.sizeOf l
decreasing_by
  have := List.sizeOf_lt_of_mem hm
  omega
end
end
end Go.Vs

namespace Go.Vs
open Go
set_option linter.unusedSimpArgs false
set_option linter.unusedVariables false

structure TabTerm (prog : Prog) (prims : Prims) (I J : Nat → Nat) : Prop where
  h13 : prims (I 13) = none ∧ prog (I 13) = some (C.F13 I J)
  h16 : prims (I 16) = none ∧ prog (I 16) = some (C.F16 I J)
  h25 : prims (I 25) = none ∧ prog (I 25) = some (C.F25 I J)
  h27 : prims (I 27) = none ∧ prog (I 27) = some (C.F27 I J)
  h29 : prims (I 29) = none ∧ prog (I 29) = some (C.F29 I J)
  h31 : prims (I 31) = none ∧ prog (I 31) = some (C.F31 I J)
  h33 : prims (I 33) = none ∧ prog (I 33) = some (C.F33 I J)
  h34 : prims (I 34) = none ∧ prog (I 34) = some (C.F34 I J)
  h38 : prims (I 38) = none ∧ prog (I 38) = some (C.F38 I J)
  h40 : prims (I 40) = none ∧ prog (I 40) = some (C.F40 I J)
  h52 : prims (I 52) = none ∧ prog (I 52) = some (C.F52 I J)
  h53 : prims (I 53) = none ∧ prog (I 53) = some (C.F53 I J)
  h57 : prims (I 57) = none ∧ prog (I 57) = some (C.F57 I J)
  h58 : prims (I 58) = none ∧ prog (I 58) = some (C.F58 I J)
  h59 : prims (I 59) = none ∧ prog (I 59) = some (C.F59 I J)
  h74 : prims (I 74) = none ∧ prog (I 74) = some (C.F74 I J)
  h75 : prims (I 75) = none ∧ prog (I 75) = some (C.F75 I J)

mutual
/-- Calls have no value: their value field is the empty one. -/
def Trm.fit : Trm → Prop
  | .mk k _ v a => (k = 3 → v = Obj.zero) ∧ Trm.fits a
def Trm.fits : List Trm → Prop
  | [] => True
  | a :: l => a.fit ∧ Trm.fits l
end

theorem Trm.fits_mem : ∀ {l : List Trm}, Trm.fits l → ∀ a ∈ l, a.fit
  | [], _, a, h => by simp at h
  | b :: l, h, a, hm => by
    rcases List.mem_cons.1 hm with rfl | hm
    · exact h.1
    · exact Trm.fits_mem h.2 a hm

section
variable {gl : Globs} {prog : Prog} {prims : Prims} {I J : Nat → Nat} (tt : TabTerm prog prims I J)
include tt

theorem t_var (s : Sym) (stk : List Boxes) : callW gl prog prims (I 25) [.agg s.cells] stk = some (.agg (Trm.var s).cells, stk) := by
  refine callW_wp tt.h25.1 tt.h25.2 ?_
  simp [C.F25, Trm.var, trm_cells, obj_zero_cells, Sym.cells]

theorem t_const (o : Obj) (stk : List Boxes) : callW gl prog prims (I 27) [.agg o.cells] stk = some (.agg (Trm.const o).cells, stk) := by
  refine callW_wp tt.h27.1 tt.h27.2 ?_
  simp [C.F27, Trm.const, trm_cells, Sym.none]

theorem t_app (s : Sym) (l : List Trm) (stk : List Boxes) : callW gl prog prims (I 29) [.agg s.cells, .slice (l.map fun o => .agg o.cells)] stk = some (.agg (Trm.app s l).cells, stk) := by
  refine callW_wp tt.h29.1 tt.h29.2 ?_
  simp [C.F29, Trm.app, trm_cells, obj_zero_cells, Sym.cells]

theorem t_lisp (n : Str) (l : List Trm) (stk : List Boxes) : callW gl prog prims (I 31) [.str n, .slice (l.map fun o => .agg o.cells)] stk = some (.agg (Trm.app (Sym.lisp n) l).cells, stk) := by
  refine callW_wp tt.h31.1 tt.h31.2 ?_
  have e2 := t_app (gl := gl) tt (Sym.lisp n) l []
  simp [Sym.cells, Sym.lisp] at e2
  simp [C.F31, e2, Sym.lisp]

def H53 (t : Trm) (g : Nat) (caps : List AV) (R : List Trm) (stk : List Boxes) (i : Nat) : St :=
  { env := ofList [(1, .fn g caps), (2, .ptr (.loc 2) 0), (4, .ptr (.loc 4) 0), (5, .asl (.loc 15) R.length), (17, .slice (t.argl.map fun o => .agg o.cells)), (18, .int .i64 R.length), (19, .int .i64 i)], bx := ofListB [(2, some (.cells t.cells)), (4, some (.cells Trm.zero.cells)), (5, none), (15, some (.arr false 11 (R.map fun o => .agg o.cells)))], nb := fun _ => none, stk := stk }

/-- A term with other arguments, if it is a call. -/
def Trm.withA (φ : Trm → Trm) : Trm → Trm
  | .mk k n v a => if k = 3 then .mk k n v (a.map φ) else .mk k n v a

theorem t_with (φ : Trm → Trm) (t : Trm) (hok : t.ok) (g : Nat) (caps : List AV) (stk : List Boxes) (hc : ∀ l, AV.keptBy l (.fn g caps) = true) (hcp : ∀ n, caps.map (AV.globS n) = caps)
    (hφ : ∀ x ∈ t.argl, ∀ b, callW gl prog prims g (.agg x.cells :: caps) (b :: stk) = some (.agg (φ x).cells, b :: stk)) :
    callW gl prog prims (I 53) [.agg t.cells, .fn g caps] stk = some (.agg (t.withA φ).cells, stk) := by
  refine callW_wp tt.h53.1 tt.h53.2 ?_
  obtain ⟨k, n, v, a⟩ := t
  simp [C.F53, trm_cells]
  refine wpc_split (fun h => ?_) (fun h => ?_)
  · simp at h; simp [Trm.withA, h, trm_cells]
  simp at h
  subst h
  have hal := hok.2.1
  have hcap : a.length ≤ maxCount := by unfold maxCount; omega
  simp [hcap]
  have loop : ∀ (q : List Trm) (i : Nat) (dn : List Trm), a.drop i = q → dn.length = i → ∀ s0, project [1, 2, 4, 5, 17, 18, 19] [2, 4, 5, 15] s0 = some (H53 (.mk 3 n v a) g caps (dn ++ List.replicate q.length Trm.zero) stk i) →
      wpl gl (callW gl prog prims) [1, 2, 4, 5, 17, 18, 19] [2, 4, 5, 15] (C.F53_0 I J) s0 fun x fin => x = .exit 0 ∧ fin.stk = stk ∧ fin.env 2 = .ptr (.loc 2) 0 ∧ fin.env 4 = .ptr (.loc 4) 0 ∧ fin.env 5 = .asl (.loc 15) (dn ++ q.map φ).length ∧ fin.bx 2 = some (.cells (Trm.mk 3 n v a).cells) ∧ fin.bx 4 = some (.cells Trm.zero.cells) ∧ fin.bx 15 = some (.arr false 11 ((dn ++ q.map φ).map fun o => .agg o.cells)) ∧ fin.nb 2 = none ∧ fin.nb 4 = none ∧ fin.nb 15 = none := by
    intro q
    induction q with
    | nil =>
      intro i dn hq hdn s0 hp0
      have hl := drop_nil hq
      refine wpl_step hp0 ?_
      simp [H53, C.F53_0, hdn]
    | cons x q ih =>
      intro i dn hq hdn s0 hp0
      obtain ⟨hi, hx, hq2, hm⟩ := drop_cons hq
      have hw := wrap64 ((i : Int) + 1) (by omega) (by omega)
      have hf := hφ x (by simpa [Trm.argl] using hm)
      refine wpl_step hp0 ?_
      have hlt : (i : Int) < (i : Int) + ((q.length : Int) + 1) := by omega
      have hlt2 : i < i + (q.length + 1) := by omega
      simp [H53, C.F53_0, hdn, hi, hx, Trm.argl, hc, hcp, hf, hw, hlt, hlt2]
      have hset : (List.replicate (q.length + 1) (AV.agg Trm.zero.cells)).set 0 (AV.agg (φ x).cells) = AV.agg (φ x).cells :: List.replicate q.length (AV.agg Trm.zero.cells) := by
        rw [List.replicate_succ]; rfl
      have hlen : i + 1 + q.length = i + (q.length + 1) := by omega
      have hlenI : (i : Int) + 1 + q.length = (i : Int) + ((q.length : Int) + 1) := by omega
      exact wpl_mono (ih (i + 1) (dn ++ [φ x]) hq2 (by simp [hdn]) _ (by simp [H53, hc, hset, hdn, hlen, hlenI, Trm.argl])) (by simp [hdn])
  refine wpk_loop (wpl_mono (loop a 0 [] rfl rfl _ (by simp [H53, hc, Trm.argl, trm_zero_cells, trm_cells])) ?_)
  rintro x fin ⟨rfl, h3, h4, h5, h6, h7, h8, h9, h10, h11, h12⟩
  simp at h6 h9
  simp [h3, h4, h5, h6, h7, h8, h9, h10, h11, h12, trm_cells, Trm.withA]

theorem t_subst1 (x : Trm) (s : List Asg) (d : Nat) (stk : List Boxes) (hd : stkGet stk d 3 = some (.cells [.slice (s.map fun o => .agg o.cells)])) (hrec : callW gl prog prims (I 13) [.agg x.cells, .slice (s.map fun o => .agg o.cells)] [] = some (.agg (x.subst s).cells, [])) :
    callW gl prog prims (I 52) [.agg x.cells, .ptr (.glb d 3) 0] stk = some (.agg (x.subst s).cells, stk) := by
  refine callW_wp tt.h52.1 tt.h52.2 ?_
  simp [C.F52, hd, hrec]

def H13 (t : Trm) (l : List Asg) (stk : List Boxes) (i : Nat) : St :=
  { env := ofList [(2, .ptr (.loc 2) 0), (3, .ptr (.loc 3) 0), (4, .ptr (.loc 4) 0), (10, .slice (l.map fun o => .agg o.cells)), (11, .int .i64 l.length), (12, .int .i64 i)], bx := ofListB [(2, some (.cells t.cells)), (3, some (.cells [.slice (l.map fun o => .agg o.cells)])), (4, some (.cells Trm.zero.cells))], nb := fun _ => none, stk := stk }

omit tt in
theorem Trm.substs_eq (s : List Asg) : ∀ l, Trm.substs s l = l.map (Trm.subst s)
  | [] => rfl
  | a :: l => by simp [Trm.substs, Trm.substs_eq s l]

theorem t_subst (s : List Asg) (hs : s.length < 1000000000) : ∀ (t : Trm), t.ok → t.fit → ∀ stk, callW gl prog prims (I 13) [.agg t.cells, .slice (s.map fun o => .agg o.cells)] stk = some (.agg (t.subst s).cells, stk)
  | .mk k n v a, hok, hfit, stk => by
    refine callW_wp tt.h13.1 tt.h13.2 ?_
    have hw : ∀ (b : Boxes), b 3 = some (.cells [.slice (s.map fun o => .agg o.cells)]) → callW gl prog prims (I 53) [.agg (Trm.mk k n v a).cells, .fn (I 52) [.ptr (.glb stk.length 3) 0]] (b :: stk) = some (.agg ((Trm.mk k n v a).withA (Trm.subst s)).cells, b :: stk) := by
      intro b hb
      refine t_with tt _ _ hok _ _ _ (by intro l; simp [AV.keptBy, AV.refs, AV.refsS, Ref.keptBy]) (by simp) ?_
      intro x hx b'
      have hm : x ∈ a := by
        simp only [Trm.argl] at hx
        split at hx
        · exact hx
        · simp at hx
      have hrec := t_subst s hs x (Trm.oks_mem hok.2.2 _ hm) (Trm.fits_mem hfit.2 _ hm) []
      exact t_subst1 tt x s stk.length _ (by simp [hb]) hrec
    by_cases h1 : k = 1
    · subst h1
      simp [C.F13, trm_cells]
      have loop : ∀ (q : List Asg) (i : Nat), s.drop i = q → ∀ s0, project [2, 3, 4, 10, 11, 12] [2, 3, 4] s0 = some (H13 (.mk 1 n v a) s stk i) →
          wpl gl (callW gl prog prims) [2, 3, 4, 10, 11, 12] [2, 3, 4] (C.F13_0 I J) s0 fun x fin => match Asg.find q n with
            | some t => x = .ret ∧ fin.stk = stk ∧ fin.env 4 = .ptr (.loc 4) 0 ∧ fin.nb 4 = none ∧ fin.bx 4 = some (.cells t.cells)
            | none => x = .exit 0 ∧ ∃ j, PJ [2, 3, 4, 10, 11, 12] [2, 3, 4] fin (H13 (.mk 1 n v a) s stk j) := by
        intro q
        induction q with
        | nil =>
          intro i hq s0 hp0
          have hl := drop_nil hq
          refine wpl_step hp0 ?_
          have : ¬ i < s.length := by omega
          simp [H13, C.F13_0, this, Asg.find, PJ]
          exact ⟨i, rfl⟩
        | cons x q ih =>
          intro i hq s0 hp0
          obtain ⟨hi, hx, hq2, hm⟩ := drop_cons hq
          have hw := wrap64 ((i : Int) + 1) (by omega) (by omega)
          refine wpl_step hp0 ?_
          by_cases h1 : x.var.pkg = n.pkg
          · by_cases h2 : x.var.name = n.name
            · simp [H13, C.F13_0, hi, hx, Asg.cells, trm_cells, h1, h2, Asg.find]
            · simp [H13, C.F13_0, hi, hx, Asg.cells, trm_cells, h1, h2, Asg.find, hw]
              exact wpl_mono (ih (i + 1) hq2 _ (by simp [H13, trm_cells, Asg.cells])) (fun x fin h => by simpa [H13, trm_cells, Asg.cells] using h)
          · simp [H13, C.F13_0, hi, hx, Asg.cells, trm_cells, h1, Asg.find, hw]
            exact wpl_mono (ih (i + 1) hq2 _ (by simp [H13, trm_cells, Asg.cells])) (fun x fin h => by simpa [H13, trm_cells, Asg.cells] using h)
      refine wpk_loop (wpl_mono (loop s 0 rfl _ (by simp [H13, trm_cells, trm_zero_cells])) ?_)
      rintro x fin h
      cases hf : Asg.find s n with
      | some t =>
        rw [hf] at h
        obtain ⟨rfl, h1, h2, h3, h4⟩ := h
        simp [h1, h2, h3, h4, Trm.subst, hf]
      | none =>
        rw [hf] at h
        obtain ⟨rfl, j, h1⟩ := h
        have e2 := project_env h1 2 (by simp)
        have e3 := project_env h1 3 (by simp)
        have e4 := project_env h1 4 (by simp)
        have b2 := project_bx h1 2 (by simp)
        have b3 := project_bx h1 3 (by simp)
        have b4 := project_bx h1 4 (by simp)
        have es := project_stk h1
        simp [H13] at e2 e3 e4 b2 b3 b4 es
        have hwb := hw (mergeB fin.bx fin.nb) (by simp [b3])
        simp [e2, e3, e4, b2, b3, b4, es, hwb, Trm.withA, Trm.subst, hf]
    · have b1 : (k == 1) = false := by simpa using h1
      by_cases h3 : k = 3
      · subst h3
        obtain rfl := hfit.1 rfl
        have := hw (mergeB (upd (upd (upd (fun x => none) 2 (some (.cells (Trm.mk 3 n Obj.zero a).cells))) 3 (some (.cells [.slice (s.map fun o => .agg o.cells)]))) 4 (some (.cells Trm.zero.cells))) (fun _ => none)) (by simp)
        simp [trm_cells, trm_zero_cells] at this
        simp [C.F13, trm_cells, this, Trm.withA, Trm.subst, Trm.substs_eq]
      · have := hw (mergeB (upd (upd (upd (fun x => none) 2 (some (.cells (Trm.mk k n v a).cells))) 3 (some (.cells [.slice (s.map fun o => .agg o.cells)]))) 4 (some (.cells Trm.zero.cells))) (fun _ => none)) (by simp)
        simp [trm_cells, trm_zero_cells] at this
        simp [C.F13, trm_cells, b1, this, Trm.withA, Trm.subst, h1, h3]
termination_by t => SizeOf.sizeOf t
decreasing_by
  have := List.sizeOf_lt_of_mem hm
  simp
  omega
end
end Go.Vs

namespace Go.Vs
open Go
set_option linter.unusedSimpArgs false
set_option linter.unusedVariables false

theorem Obj.eqs_snoc : ∀ (l r : List Obj) (x y : Obj), l.length = r.length → Obj.eqs (l ++ [x]) (r ++ [y]) = (Obj.eqs l r && Obj.eq x y)
  | [], [], x, y, _ => by simp [Obj.eqs]
  | [], _ :: _, _, _, h => by simp at h
  | _ :: _, [], _, _, h => by simp at h
  | a :: l, b :: r, x, y, h => by simp [Obj.eqs, Obj.eqs_snoc l r x y (by simpa using h), Bool.and_assoc]

section
variable {gl : Globs} {prog : Prog} {prims : Prims} {I J : Nat → Nat} (tt : TabTerm prog prims I J)

def H57 (a b : Obj) (stk : List Boxes) : St :=
  { env := ofList [(2, .ptr (.loc 2) 0), (3, .ptr (.loc 3) 0)], bx := ofListB [(2, some (.cells a.cells)), (3, some (.cells b.cells))], nb := fun _ => none, stk := stk }
def H57i (a b : Obj) (n : Nat) (stk : List Boxes) (i : Nat) : St :=
  { env := ofList [(2, .ptr (.loc 2) 0), (3, .ptr (.loc 3) 0), (5, .int .i64 ((n : Int) + 1)), (55, .int .i64 n), (56, .int .i64 i)], bx := ofListB [(2, some (.cells a.cells)), (3, some (.cells b.cells))], nb := fun _ => none, stk := stk }

include tt
theorem obj_inner (k : Int) (n d : Str) (s : Sym) (t : Str) (p : List Obj) (k' : Int) (n' d' : Str) (s' : Sym) (t' : Str) (p' : List Obj) (m : Nat) (hm : p.length = m + 1) (hm' : p'.length = m + 1) (hm1 : m < 1000000) (stk : List Boxes)
    (hrec : ∀ x ∈ p, ∀ y, callW gl prog prims (I 57) [.agg x.cells, .agg y.cells] [] = some (.bool (Obj.eq x y), [])) :
    ∀ (q q' : List Obj) (i : Nat), (p.take m).drop i = q → (p'.take m).drop i = q' → i ≤ m → ∀ s0, project [2, 3, 5, 55, 56] [2, 3] s0 = some (H57i (.mk k n d s t p) (.mk k' n' d' s' t' p') m stk i) →
    wpl gl (callW gl prog prims) [2, 3, 5, 55, 56] [2, 3] (C.F57_0 I J) s0 fun x fin => if Obj.eqs q q' = true then x = .exit 2 ∧ PJ [2, 3, 5, 55, 56] [2, 3] fin (H57i (.mk k n d s t p) (.mk k' n' d' s' t' p') m stk m) else x = .ret ∧ fin.stk = stk ∧ fin.env 4 = .bool false := by
  intro q
  induction q with
  | nil =>
    intro q' i hq hq' hi s0 hp0
    have hl := drop_nil hq
    have hl' : m ≤ i := by simpa [hm] using hl
    have : i = m := by omega
    subst this
    have : q' = [] := by rw [← hq']; exact List.drop_eq_nil_of_le (by simp; omega)
    subst this
    refine wpl_step hp0 ?_
    simp [H57i, C.F57_0, Obj.eqs, Obj.cells, PJ]
  | cons x q ih =>
    intro q' i hq hq' hi s0 hp0
    obtain ⟨hi1, hx, hq2, hmem⟩ := drop_cons hq
    have him : i < m := by simp at hi1; omega
    have hip : i < p.length := by omega
    have hip' : i < p'.length := by omega
    have hxp : p[i] = x := by simpa using hx
    have hw := wrap64 ((i : Int) + 1) (by omega) (by omega)
    obtain ⟨y, q'', rfl⟩ : ∃ y q'', q' = y :: q'' := by rw [List.drop_eq_getElem_cons (by simp; omega)] at hq'; exact ⟨_, _, hq'.symm⟩
    obtain ⟨_, hy, hq3, _⟩ := drop_cons hq'
    have hyp : p'[i] = y := by simpa using hy
    have hr := hrec x (hxp ▸ List.getElem_mem hip) y
    refine wpl_step hp0 ?_
    simp [H57i, C.F57_0, Obj.cells, him, hip, hip', hxp, hyp, hr]
    refine wpc_split (fun h => ?_) (fun h => ?_)
    · simp at h
      simp [h, Obj.eqs]
    · simp at h
      simp [h, Obj.eqs, hw]
      exact wpl_mono (ih q'' (i + 1) hq2 hq3 (by omega) _ (by simp [H57i, Obj.cells])) (fun x fin h => by simpa [H57i, Obj.cells] using h)

mutual
theorem obj_loop : ∀ (a b : Obj) (stk : List Boxes), a.ok → ∀ s0, project [2, 3] [2, 3] s0 = some (H57 a b stk) →
    wpl gl (callW gl prog prims) [2, 3] [2, 3] (C.F57_1 I J) s0 fun x fin => x = .ret ∧ fin.stk = stk ∧ fin.env 4 = .bool (Obj.eq a b)
  | .mk k n d ⟨sp, sn⟩ t p, .mk k' n' d' ⟨sp', sn'⟩ t' p', stk, hok, s0, hp0 => by
    refine wpl_step hp0 ?_
    simp [C.F57_1, H57, Obj.cells]
    refine wpg_split (fun h => ?_) (fun h => ?_)
    · simp [h]; simp at h; simp [h, Obj.eq]
    simp at h; subst h; simp
    refine wpg_split (fun h => ?_) (fun h => ?_)
    · simp [h]; simp at h; simp [h, Obj.eq]
    simp at h; subst h; simp
    refine wpg_split (fun h => ?_) (fun h => ?_)
    · simp [h]; simp at h; simp [h, Obj.eq]
    simp at h; subst h; simp
    refine wpg_split (fun h => ?_) (fun h => ?_)
    · simp [h]; simp at h; simp [Obj.eq]; grind
    simp at h; obtain ⟨rfl, rfl⟩ := h; simp
    refine wpg_split (fun h => ?_) (fun h => ?_)
    · simp [h]; simp at h; simp [h, Obj.eq]
    simp at h; subst h; simp
    refine wpc_split (fun h => ?_) (fun h => ?_)
    · have e7 : Obj.eqs p p' = false := by rw [← Bool.not_eq_true, Obj.eqs_iff]; intro h2; simp [h2] at h
      simp [e7, Obj.eq]
    simp at h
    simp
    cases hp : p.length with
    | zero =>
      have e1 : p = [] := List.eq_nil_of_length_eq_zero hp
      have e2 : p' = [] := List.eq_nil_of_length_eq_zero (by omega)
      subst e1; subst e2
      simp [Obj.eq, Obj.eqs]
    | succ m =>
      have hne : ((m : Int) + 1 == 0) = false := by rw [beq_eq_false_iff_ne]; omega
      have hlen := hok.1
      have hw := wrap64 ((m : Int) + 1 - 1) (by omega) (by omega)
      simp at hw
      simp [hne, hw]
      have hp' : p'.length = m + 1 := by omega
      have hl1 : m < p.length := by omega
      have hl2 : m < p'.length := by omega
      have hm : p[m] ∈ p := List.getElem_mem hl1
      have hin := obj_inner (gl := gl) tt k n d ⟨sp, sn⟩ t p k n d ⟨sp, sn⟩ t p' m hp hp' (by omega) stk (fun x hx y => obj_equal x y [] (Obj.oks_mem hok.2 _ hx)) _ _ 0 rfl rfl (by omega)
      refine wpk_loop (wpl_mono (hin _ (by simp [H57i, Obj.cells, hw])) ?_)
      have hsp : p = p.take m ++ [p[m]] := by
        have := List.take_append_getElem (l := p) (i := m) hl1
        rw [this, List.take_of_length_le (by omega)]
      have hsp' : p' = p'.take m ++ [p'[m]] := by
        have := List.take_append_getElem (l := p') (i := m) hl2
        rw [this, List.take_of_length_le (by omega)]
      have heq : Obj.eqs p p' = (Obj.eqs (p.take m) (p'.take m) && Obj.eq p[m] p'[m]) := by
        conv => lhs; rw [hsp, hsp']
        exact Obj.eqs_snoc _ _ _ _ (by simp; omega)
      rintro x fin h
      simp only [List.drop_zero] at h
      cases he : Obj.eqs (p.take m) (p'.take m) with
      | false =>
        rw [he] at h
        simp at h
        simp [h, Obj.eq, heq, he]
      | true =>
        rw [he] at h
        simp only [if_true] at h
        obtain ⟨rfl, h1⟩ := h
        have e2 := project_env h1 2 (by simp)
        have e3 := project_env h1 3 (by simp)
        have e5 := project_env h1 5 (by simp)
        have b2 := project_bx h1 2 (by simp)
        have b3 := project_bx h1 3 (by simp)
        have es := project_stk h1
        simp [H57i] at e2 e3 e5 b2 b3 es
        simp [e2, e3, e5, b2, b3, es, Obj.cells, hw, hl1, hl2]
        have hrec := obj_loop p[m] p'[m] stk (Obj.oks_mem hok.2 _ hm)
        refine wpl_mono (hrec _ (by simp [H57, e2, e3, b2, b3, es])) ?_
        simp [Obj.eq, heq, he]
termination_by a => (SizeOf.sizeOf a, 0)
theorem obj_equal : ∀ (a b : Obj) (stk : List Boxes), a.ok →
    callW gl prog prims (I 57) [.agg a.cells, .agg b.cells] stk = some (.bool (Obj.eq a b), stk)
  | a, b, stk, hok => by
    refine callW_wp tt.h57.1 tt.h57.2 ?_
    simp [C.F57]
    refine wpk_loop (wpl_mono (obj_loop a b stk hok _ (by simp [H57])) ?_)
    rintro x fin ⟨rfl, h3, h4⟩
    simp [h3, h4]
termination_by a => (SizeOf.sizeOf a, 1)
decreasing_by
  all_goals first
    | exact Prod.Lex.right _ (by omega)
    | exact Prod.Lex.left _ _ (by have := List.sizeOf_lt_of_mem hx; simp; omega)
    | exact Prod.Lex.left _ _ (by have := List.sizeOf_lt_of_mem hm; simp; omega)
end

def H58 (p p' : List Trm) (g : Nat) (stk : List Boxes) (i : Nat) : St :=
  { env := ofList [(1, .slice (p'.map fun o => .agg o.cells)), (2, .fn g []), (15, .slice (p.map fun o => .agg o.cells)), (16, .int .i64 p.length), (17, .int .i64 i)], bx := ofListB [], nb := fun _ => none, stk := stk }

mutual
theorem t_equal : ∀ (a b : Trm), a.ok → ∀ stk, callW gl prog prims (I 16) [.agg a.cells, .agg b.cells] stk = some (.bool (Trm.eq a b), stk)
  | .mk k s v a, .mk k' s' v' a', hok, stk => by
    refine callW_wp tt.h16.1 tt.h16.2 ?_
    have e1 := obj_equal (gl := gl) tt v v' [] hok.1
    have e2 := t_equalFunc a a' hok.2.1 hok.2.2
    by_cases h0 : k = k'
    · by_cases h1 : s.pkg = s'.pkg
      · by_cases h2 : s.name = s'.name
        · by_cases h3 : Obj.eq v v' = true
          · simp [C.F16, trm_cells, h0, h1, h2, e1, h3, e2, Trm.eq]
          · simp at h3
            simp [C.F16, trm_cells, h0, h1, h2, e1, h3, Trm.eq]
        · simp [C.F16, trm_cells, h0, h1, h2, Trm.eq]
      · simp [C.F16, trm_cells, h0, h1, Trm.eq]
    · have b0 : (k == k') = false := by simpa using h0
      simp [C.F16, trm_cells, h0, b0, Trm.eq]
termination_by a => SizeOf.sizeOf a
theorem t_equalFunc : ∀ (a b : List Trm), a.length < 1000000 → Trm.oks a → ∀ stk, callW gl prog prims (I 58) [.slice (a.map fun o => .agg o.cells), .slice (b.map fun o => .agg o.cells), .fn (I 16) []] stk = some (.bool (Trm.eqs a b), stk)
  | p, p', hlen, hok, stk => by
    refine callW_wp tt.h58.1 tt.h58.2 ?_
    simp [C.F58]
    refine wpc_split (fun h => ?_) (fun h => ?_)
    · have e7 : Trm.eqs p p' = false := by rw [← Bool.not_eq_true, Trm.eqs_iff]; intro h2; simp [h2] at h
      simp [e7]
    simp at h
    simp
    have loop : ∀ (q q' : List Trm) (i : Nat), p.drop i = q → p'.drop i = q' → ∀ s0, project [1, 2, 15, 16, 17] [] s0 = some (H58 p p' (I 16) stk i) →
        wpl gl (callW gl prog prims) [1, 2, 15, 16, 17] [] (C.F58_0 I J) s0 fun x s => s.stk = stk ∧ if Trm.eqs q q' = true then x = .exit 0 else x = .ret ∧ s.env 6 = .bool false := by
      intro q
      induction q with
      | nil =>
        intro q' i hq hq' s0 hp0
        have hl := drop_nil hq
        have : q' = [] := by rw [← hq']; exact List.drop_eq_nil_of_le (by omega)
        subst this
        refine wpl_step hp0 ?_
        have : ¬ i < p.length := by omega
        simp [H58, C.F58_0, this, Trm.eqs]
      | cons x q ih =>
        intro q' i hq hq' s0 hp0
        obtain ⟨hi, hx, hq2, hm⟩ := drop_cons hq
        have hi2 : i < p'.length := by omega
        obtain ⟨y, q'', rfl⟩ : ∃ y q'', q' = y :: q'' := by rw [List.drop_eq_getElem_cons hi2] at hq'; exact ⟨_, _, hq'.symm⟩
        obtain ⟨_, hy, hq3, _⟩ := drop_cons hq'
        have hrec := t_equal x y (Trm.oks_mem hok _ hm)
        have hw := wrap64 ((i : Int) + 1) (by omega) (by omega)
        refine wpl_step hp0 ?_
        simp [H58, C.F58_0, hi, hi2, hx, hy, hrec]
        refine wpc_split (fun h => ?_) (fun h => ?_)
        · simp at h
          simp [h, Trm.eqs]
        · simp at h
          simp [h, Trm.eqs, hw]
          exact wpl_mono (ih _ (i + 1) hq2 hq3 _ (by simp [H58])) (fun x fin h => by simpa using h)
    refine wpk_loop (wpl_mono (loop p p' 0 rfl rfl _ (by simp [H58])) ?_)
    rintro x s ⟨h1, h2⟩
    cases he : Trm.eqs p p' with
    | true => simp [he] at h2; simp [h2, h1]
    | false => simp [he] at h2; simp [h2, h1]
termination_by a => SizeOf.sizeOf a
decreasing_by
  have := List.sizeOf_lt_of_mem hm
  omega
end
end
end Go.Vs

namespace Go.Vs
open Go
set_option linter.unusedSimpArgs false
set_option linter.unusedVariables false

structure TabL8 (prog : Prog) (prims : Prims) (I J : Nat → Nat) : Prop where
  h11 : prims (I 11) = none ∧ prog (I 11) = some (C.F11 I J)
  h12 : prims (I 12) = none ∧ prog (I 12) = some (C.F12 I J)

def Raw.fnames : List Str := [[102], [103], [104]]

mutual
def Raw.term : Raw → Trm
  | .mk k n s l => if k % 5 < 2 then Trm.var (Sym.vars.getD (n % 4).toNat Sym.none) else if k % 5 = 2 then Trm.const (Raw.mk n n s l).obj
    else Trm.app (Sym.user (Raw.fnames.getD (n % 3).toNat [])) ((Raw.terms l).take 3)
def Raw.terms : List Raw → List Trm
  | [] => []
  | r :: l => r.term :: Raw.terms l
end

theorem Raw.terms_eq : ∀ l : List Raw, Raw.terms l = l.map Raw.term
  | [] => rfl
  | r :: l => by simp [Raw.terms, Raw.terms_eq l]

def Raw.asg : Raw → Asg
  | .mk k n s l => ⟨Sym.vars.getD (n % 4).toNat Sym.none, (Raw.mk k n s l).term⟩

section
variable {gl : Globs} {prog : Prog} {prims : Prims} {I J : Nat → Nat} (tm : TabMake prog prims I J) (t2 : TabRef2 prog prims I J) (t1 : TabRef1 prog prims I J) (tp : prims (I 88) = some itoaP) (t8 : TabRef8 prog prims I J) (tl : TabL8 prog prims I J)

def H11 (k n : Int) (s : Str) (l : List Raw) (acc : List Trm) (stk : List Boxes) (i : Nat) : St :=
  { env := ofList [(1, .ptr (.loc 1) 0), (2, .ptr (.loc 2) 0), (5, .slice [.str [102], .str [103], .str [104]]), (6, accA 11 (acc.map fun o => .agg o.cells)), (7, .int .i64 i)], bx := ofListB [(1, some (.cells (Raw.mk k n s l).cells)), (2, some (.cells Trm.zero.cells))], nb := fun _ => none, stk := stk }

include tm t2 t1 tp t8 tl
theorem made_spec : ∀ (r : Raw), r.small → ∀ stk, callW gl prog prims (I 11) [.agg r.cells] stk = some (.agg r.term.cells, stk)
  | .mk k n s l, hsm, stk => by
    refine callW_wp tl.h11.1 tl.h11.2 ?_
    have hm := mod_spec (gl := gl) tm k 5 (by omega) (by omega) []
    have hv := vars_spec (gl := gl) tm 4 (by omega) []
    have hk1 : 0 ≤ k % 5 := by omega
    have hk2 : k % 5 < 5 := by omega
    simp only [Raw.term]
    generalize k % 5 = j at hm hk1 hk2
    simp at hv
    simp [C.F11, Raw.cells, hm, hv]
    by_cases h0 : j < 2
    · have hm4 := mod_spec (gl := gl) tm n 4 (by omega) (by omega) []
      have hn : n % 4 = 0 ∨ n % 4 = 1 ∨ n % 4 = 2 ∨ n % 4 = 3 := by omega
      have e1 := fun s => r8_var (gl := gl) t8 s []
      simp [h0, hm4]
      rcases hn with hn | hn | hn | hn <;> simp [hn, Sym.vars, e1]
    simp [h0]
    by_cases h2 : j = 2
    · subst h2
      have e1 := object_spec (gl := gl) tm t2 t1 tp (.mk n n s l) hsm []
      have e2 := r8_const (gl := gl) t8 (Raw.mk n n s l).obj []
      simp [Raw.cells] at e1
      simp [e1, e2]
    have b2 : (j == 2) = false := by simpa using h2
    simp [b2, h2]
    have hl6 := hsm.2.1
    have loop : ∀ (q : List Raw) (i : Nat) (acc : List Trm), (l.take 3).drop i = q → acc.length = i → ∀ s0, project [1, 2, 5, 6, 7] [1, 2] s0 = some (H11 k n s l acc stk i) →
        wpl gl (callW gl prog prims) [1, 2, 5, 6, 7] [1, 2] (C.F11_0 I J) s0 fun x fin => x = .exit 0 ∧ fin.stk = stk ∧ fin.env 1 = .ptr (.loc 1) 0 ∧ fin.env 2 = .ptr (.loc 2) 0 ∧ fin.env 5 = .slice [.str [102], .str [103], .str [104]] ∧ fin.bx 1 = some (.cells (Raw.mk k n s l).cells) ∧ fin.nb 1 = none ∧ fin.bx 2 = some (.cells Trm.zero.cells) ∧ fin.nb 2 = none ∧ fin.env 6 = accA 11 ((acc ++ Raw.terms q).map fun o => .agg o.cells) := by
      intro q
      induction q with
      | nil =>
        intro i acc hq hal s0 hp0
        have hl := drop_nil hq
        refine wpl_step hp0 ?_
        by_cases h3 : i < l.length
        · have : ¬ i < 3 := by simp at hl; omega
          have h3' : ¬ ((i : Int) < 3) := by omega
          simp [H11, C.F11_0, Raw.cells, h3, h3', Raw.terms]
        · simp [H11, C.F11_0, Raw.cells, h3, Raw.terms]
      | cons x q ih =>
        intro i acc hq hal s0 hp0
        obtain ⟨hi, hx, hq2, hm⟩ := drop_cons hq
        have hi3 : i < 3 := by simp at hi; omega
        have hil : i < l.length := by simp at hi; omega
        have hxl : l[i] = x := by simpa using hx
        have hml : x ∈ l := hxl ▸ List.getElem_mem hil
        have hrec := made_spec x (Raw.smalls_mem hsm.2.2 _ hml) []
        have hw := wrap64 ((i : Int) + 1) (by omega) (by omega)
        have hi3' : (i : Int) < 3 := by omega
        have hcap : acc.length + 1 ≤ maxCount := by unfold maxCount; omega
        have hcap1 : 1 ≤ maxCount := by unfold maxCount; omega
        refine wpl_step hp0 ?_
        rcases acc_cases 11 (acc.map fun o => .agg o.cells) with ⟨e, e2⟩ | ⟨e, e2⟩ <;> simp at e2 <;> simp [H11, C.F11_0, Raw.cells, hi3', hil, hxl, hrec, e, hcap, hcap1, hw] <;>
          exact wpl_mono (ih (i + 1) (acc ++ [x.term]) hq2 (by simp [hal]) _ (by simp [H11, Raw.cells, e2])) (fun x fin h => by simpa [Raw.terms, Raw.cells, H11] using h)
    refine wpk_loop (wpl_mono (loop (l.take 3) 0 [] rfl rfl _ (by simp [H11, Raw.cells, trm_zero_cells])) ?_)
    rintro x fin ⟨rfl, es, e1, e2, e5, b1, c1, b2, c2, e6⟩
    simp at e6
    have hm3 := mod_spec (gl := gl) tm n 3 (by omega) (by omega) []
    have hu := fun s => user_spec (gl := gl) tm s []
    have ha : ∀ s : Sym, callW gl prog prims (I 30) [.agg s.cells, .slice (List.take 3 ((Raw.terms l).map fun o => .agg o.cells))] [] = some (.agg (Trm.app s ((Raw.terms l).take 3)).cells, []) := fun s => by
      have := r8_app (gl := gl) t8 s ((Raw.terms l).take 3) []
      simpa [List.map_take] using this
    have htk : Raw.terms (l.take 3) = (Raw.terms l).take 3 := by simp [Raw.terms_eq, List.map_take]
    have hn : n % 3 = 0 ∨ n % 3 = 1 ∨ n % 3 = 2 := by omega
    simp [es, e1, e2, e5, b1, c1, b2, c2, e6, Raw.cells, hm3]
    rcases hn with hn | hn | hn <;> simp [hn, hu, ha, Raw.fnames, es, e1, e2, e5, b1, c1, b2, c2, e6, htk]
termination_by r => SizeOf.sizeOf r
decreasing_by
  have := List.sizeOf_lt_of_mem hml
  simp
  omega

def H12 (l : List Raw) (acc : List Asg) (stk : List Boxes) (i : Nat) : St :=
  { env := ofList [(0, .slice (l.map fun o => .agg o.cells)), (3, .slice (Sym.vars.map fun o => .agg o.cells)), (4, accA 13 (acc.map fun o => .agg o.cells)), (5, .int .i64 i)], bx := ofListB [], nb := fun _ => none, stk := stk }

theorem assigns_spec (l : List Raw) (hl : l.length < 1000000) (hsm : Raw.smalls l) (stk : List Boxes) : callW gl prog prims (I 12) [.slice (l.map fun o => .agg o.cells)] stk = some (.slice ((l.map Raw.asg).map fun o => .agg o.cells), stk) := by
  refine callW_wp tl.h12.1 tl.h12.2 ?_
  have hv := vars_spec (gl := gl) tm 4 (by omega) []
  simp at hv
  simp [C.F12, hv]
  have loop : ∀ (q : List Raw) (i : Nat) (acc : List Asg), l.drop i = q → acc.length = i → ∀ s0, project [0, 3, 4, 5] [] s0 = some (H12 l acc stk i) →
      wpl gl (callW gl prog prims) [0, 3, 4, 5] [] (C.F12_0 I J) s0 fun x fin => x = .exit 0 ∧ fin.stk = stk ∧ fin.env 4 = accA 13 ((acc ++ q.map Raw.asg).map fun o => .agg o.cells) := by
    intro q
    induction q with
    | nil =>
      intro i acc hq hal s0 hp0
      have hl := drop_nil hq
      refine wpl_step hp0 ?_
      have : ¬ i < l.length := by omega
      simp [H12, C.F12_0, this]
    | cons x q ih =>
      intro i acc hq hal s0 hp0
      obtain ⟨hi, hx, hq2, hm⟩ := drop_cons hq
      have hrec := made_spec (gl := gl) tm t2 t1 tp t8 tl x (Raw.smalls_mem hsm _ hm) []
      obtain ⟨k, n, s, r⟩ := x
      have hw := wrap64 ((i : Int) + 1) (by omega) (by omega)
      have hcap : acc.length + 1 ≤ maxCount := by unfold maxCount; omega
      have hcap1 : 1 ≤ maxCount := by unfold maxCount; omega
      have hm4 := mod_spec (gl := gl) tm n 4 (by omega) (by omega) []
      have hn : n % 4 = 0 ∨ n % 4 = 1 ∨ n % 4 = 2 ∨ n % 4 = 3 := by omega
      refine wpl_step hp0 ?_
      simp [Raw.cells] at hrec
      rcases acc_cases 13 (acc.map fun o => .agg o.cells) with ⟨e, e2⟩ | ⟨e, e2⟩ <;> simp at e2 <;> rcases hn with hn | hn | hn | hn <;> rw [hn] at hm4 <;> simp [H12, C.F12_0, hi, hx, Raw.cells, Sym.vars, hm4, hrec, e, hcap, hcap1, hw] <;>
        exact wpl_mono (ih (i + 1) (acc ++ [(Raw.mk k n s r).asg]) hq2 (by simp [hal]) _ (by simp [H12, e2, Raw.asg, hn, Sym.vars, Asg.cells, Sym.cells, Sym.user])) (fun x fin h => by simpa [Raw.asg, H12] using h)
  refine wpk_loop (wpl_mono (loop l 0 [] rfl rfl _ (by simp [H12, Sym.vars])) ?_)
  rintro x fin ⟨rfl, h3, h4⟩
  simp at h4
  simp [h3, h4]
end
end Go.Vs

namespace Go.Vs
open Go
set_option linter.unusedSimpArgs false
set_option linter.unusedVariables false

mutual
theorem Raw.obj_ok : ∀ r : Raw, r.obj.ok
  | .mk k n s l => by
    have hl := Raw.objs_ok l
    have hg : ∀ i, ((Raw.objs l).getD i (Obj.int (-1000))).ok := by
      intro i
      rw [List.getD_eq_getElem?_getD]
      cases h : (Raw.objs l)[i]? with
      | none => exact obj_int_ok _
      | some o => exact Obj.oks_mem hl o (List.mem_of_getElem? h)
    unfold Raw.obj
    split
    · exact obj_int_ok _
    · split
      · exact obj_rat_ok _ _
      · split
        · exact ⟨by simp, trivial⟩
        · split
          · exact ⟨by simp, trivial⟩
          · split
            · exact ⟨by simp, hg 0, hg 1, trivial⟩
            · exact obj_lst_ok _ hl
theorem Raw.objs_ok : ∀ l : List Raw, Obj.oks (Raw.objs l)
  | [] => trivial
  | r :: l => ⟨Raw.obj_ok r, Raw.objs_ok l⟩
theorem obj_rat_ok (n d : Str) : (Obj.rat n d).ok := by
  unfold Obj.rat
  split <;> exact ⟨by simp, trivial⟩
theorem obj_int_ok (n : Int) : (Obj.int n).ok := obj_rat_ok _ _
theorem obj_lst_ok : ∀ l : List Obj, Obj.oks l → (Obj.lst l).ok
  | [], _ => ⟨by simp, trivial⟩
  | a :: l, h => ⟨by simp, h.1, obj_lst_ok l h.2, trivial⟩
end

theorem obj_zero_ok : Obj.zero.ok := ⟨by simp, trivial⟩

mutual
theorem Raw.term_ok : ∀ r : Raw, r.small → r.term.ok ∧ r.term.fit
  | .mk k n s l, h => by
    have hl := Raw.terms_ok l h.2.2
    have hlen := h.2.1
    unfold Raw.term
    split
    · exact ⟨⟨obj_zero_ok, by simp, trivial⟩, by simp [Trm.var, Trm.fit], trivial⟩
    · split
      · exact ⟨⟨Raw.obj_ok _, by simp, trivial⟩, by simp [Trm.const, Trm.fit], trivial⟩
      · have ht : ∀ x ∈ (Raw.terms l).take 3, x ∈ Raw.terms l := fun x hx => List.mem_of_mem_take hx
        exact ⟨⟨obj_zero_ok, by rw [Raw.terms_eq]; simp; omega, oks_take 3 hl.1⟩, by simp [Trm.app], fits_take 3 hl.2⟩
theorem Raw.terms_ok : ∀ l : List Raw, Raw.smalls l → Trm.oks (Raw.terms l) ∧ Trm.fits (Raw.terms l)
  | [], _ => ⟨trivial, trivial⟩
  | r :: l, h => ⟨⟨(Raw.term_ok r h.1).1, (Raw.terms_ok l h.2).1⟩, (Raw.term_ok r h.1).2, (Raw.terms_ok l h.2).2⟩
theorem oks_take : ∀ (n : Nat) {l : List Trm}, Trm.oks l → Trm.oks (l.take n)
  | 0, _, _ => trivial
  | n + 1, [], _ => trivial
  | n + 1, a :: l, h => ⟨h.1, oks_take n h.2⟩
theorem fits_take : ∀ (n : Nat) {l : List Trm}, Trm.fits l → Trm.fits (l.take n)
  | 0, _, _ => trivial
  | n + 1, [], _ => trivial
  | n + 1, a :: l, h => ⟨h.1, fits_take n h.2⟩
end

theorem find_mem : ∀ {s : List Asg} {n : Sym} {t : Trm}, Asg.find s n = some t → ∃ a ∈ s, a.term = t
  | [], n, t, h => by simp [Asg.find] at h
  | a :: l, n, t, h => by
    simp only [Asg.find] at h
    split at h
    · exact ⟨a, by simp, by simpa using h⟩
    · obtain ⟨b, hb, e⟩ := find_mem h
      exact ⟨b, by simp [hb], e⟩

mutual
theorem Trm.subst_ok (s : List Asg) (hs : ∀ a ∈ s, a.term.ok ∧ a.term.fit) : ∀ t : Trm, t.ok → t.fit → (t.subst s).ok ∧ (t.subst s).fit
  | .mk k n v a, h, hf => by
    have hl := Trm.substs_ok s hs a h.2.2 hf.2
    have hlen := h.2.1
    have hlen2 : (Trm.substs s a).length = a.length := Trm.substs_len s a
    unfold Trm.subst
    split
    · split
      · rename_i t ht
        obtain ⟨b, hb, rfl⟩ := find_mem ht
        exact hs b hb
      · exact ⟨h, hf⟩
    · split
      · exact ⟨⟨obj_zero_ok, by omega, hl.1⟩, by simp, hl.2⟩
      · exact ⟨h, hf⟩
theorem Trm.substs_ok (s : List Asg) (hs : ∀ a ∈ s, a.term.ok ∧ a.term.fit) : ∀ l : List Trm, Trm.oks l → Trm.fits l → Trm.oks (Trm.substs s l) ∧ Trm.fits (Trm.substs s l)
  | [], _, _ => ⟨trivial, trivial⟩
  | t :: l, h, hf => ⟨⟨(Trm.subst_ok s hs t h.1 hf.1).1, (Trm.substs_ok s hs l h.2 hf.2).1⟩, (Trm.subst_ok s hs t h.1 hf.1).2, (Trm.substs_ok s hs l h.2 hf.2).2⟩
theorem Trm.substs_len (s : List Asg) : ∀ l : List Trm, (Trm.substs s l).length = l.length
  | [] => rfl
  | t :: l => by simp [Trm.substs, Trm.substs_len s l]
end

theorem Raw.fewAll_small {l : List Raw} {m : Int} (h : Raw.fewAll l m = true) : Raw.smalls l ∧ l.length ≤ 8 := by
  simp only [Raw.fewAll, Bool.and_eq_true, decide_eq_true_eq, List.all_eq_true] at h
  refine ⟨?_, h.1⟩
  have : ∀ q : List Raw, (∀ r ∈ q, Raw.few r m = true) → Raw.smalls q := by
    intro q
    induction q with
    | nil => intro _; trivial
    | cons a q ih =>
      intro hq
      refine ⟨?_, ih fun r hr => hq r (by simp [hr])⟩
      have := hq a (by simp)
      simp [Raw.few] at this
      exact Raw.few_small a m this
  exact this l h.2

theorem asg_ok {l : List Raw} (h : Raw.smalls l) : ∀ a ∈ l.map Raw.asg, a.term.ok ∧ a.term.fit := by
  intro a ha
  obtain ⟨r, hr, rfl⟩ := List.mem_map.1 ha
  have := Raw.term_ok r (Raw.smalls_mem h r hr)
  obtain ⟨k, n, s, q⟩ := r
  exact this

structure TabLaws8a (prog : Prog) (prims : Prims) (I J : Nat → Nat) : Prop where
  h0 : prims (I 0) = none ∧ prog (I 0) = some (C.F0 I J)
  h1 : prims (I 1) = none ∧ prog (I 1) = some (C.F1 I J)
  h3 : prims (I 3) = none ∧ prog (I 3) = some (C.F3 I J)

section
variable {gl : Globs} {prog : Prog} {prims : Prims} {I J : Nat → Nat} (tm : TabMake prog prims I J) (t2 : TabRef2 prog prims I J) (t1 : TabRef1 prog prims I J) (tp : prims (I 88) = some itoaP) (t8 : TabRef8 prog prims I J) (tl : TabL8 prog prims I J) (tt : TabTerm prog prims I J) (ta : TabLaws8a prog prims I J) (hfirst : callW gl prog prims (I 8) [] [] = some (.bool true, []))

include tm t2 t1 tp t8 tl tt ta hfirst
theorem law_substitutes (r : Raw) (l : List Raw) (stk : List Boxes) : callW gl prog prims (I 0) [.agg r.cells, .slice (l.map fun o => .agg o.cells)] stk = some (.bool true, stk) := by
  refine callW_wp ta.h0.1 ta.h0.2 ?_
  have e1 := few_spec (gl := gl) tm r 25 (by omega) (by omega) []
  have e2 := fewAll_spec (gl := gl) tm l 10 (by omega) (by omega) []
  cases h1 : r.few 25 with
  | false => rw [h1] at e1; simp [C.F0, hfirst, e1]
  | true =>
    rw [h1] at e1
    cases h2 : Raw.fewAll l 10 with
    | false => rw [h2] at e2; simp [C.F0, hfirst, e1, e2]
    | true =>
      rw [h2] at e2
      have hs1 : r.small := by simp [Raw.few] at h1; exact Raw.few_small r 25 h1
      obtain ⟨hs2, hl⟩ := Raw.fewAll_small h2
      have e3 := made_spec (gl := gl) tm t2 t1 tp t8 tl r hs1 []
      have e4 := assigns_spec (gl := gl) tm t2 t1 tp t8 tl l (by omega) hs2 []
      have ho := Raw.term_ok r hs1
      have e5 := t_subst (gl := gl) tt (l.map Raw.asg) (by simp; omega) r.term ho.1 ho.2 []
      have e6 := r8_subst (gl := gl) t8 (l.map Raw.asg) (by simp; omega) r.term ho.1 []
      have e7 := r8_equal (gl := gl) t8 t2 (r.term.subst (l.map Raw.asg)) (r.term.subst (l.map Raw.asg)) (Trm.subst_ok _ (asg_ok hs2) _ ho.1 ho.2).1 []
      rw [Trm.eq_refl] at e7
      simp at e4 e5 e6
      simp [C.F0, hfirst, e1, e2, e3, e4, e5, e6, e7]
end
end Go.Vs

namespace Go.Vs
open Go
set_option linter.unusedSimpArgs false
set_option linter.unusedVariables false

theorem asg_take2 (x : Asg) : List.take 2 x.cells = x.var.cells := by simp [Asg.cells, Sym.cells]
theorem asg_drop2 (x : Asg) : List.drop 2 x.cells = x.term.cells := by simp [Asg.cells]
theorem asg_len13 (x : Asg) : x.cells.length = 13 := by simp [Asg.cells]
attribute [simp] asg_len13
theorem asg_cells (v : Sym) (t : Trm) : Asg.cells ⟨v, t⟩ = .str v.pkg :: .str v.name :: t.cells := rfl

/-- One substitution behind another. -/
def Asg.comp (a b : List Asg) : List Asg := (a.map fun x => ⟨x.var, x.term.subst b⟩) ++ b

theorem find_comp (a b : List Asg) (n : Sym) : Asg.find (Asg.comp a b) n = match Asg.find a n with
    | some t => some (t.subst b)
    | none => Asg.find b n := by
  induction a with
  | nil => rfl
  | cons x a ih =>
    simp only [Asg.comp, List.map_cons, List.cons_append, Asg.find] at ih ⊢
    by_cases h : x.var.pkg = n.pkg ∧ x.var.name = n.name
    · simp [h]
    · rw [if_neg h, if_neg h]; exact ih

mutual
theorem Trm.subst_comp (a b : List Asg) : ∀ t : Trm, (t.subst a).subst b = t.subst (Asg.comp a b)
  | .mk k n v l => by
    by_cases h1 : k = 1
    · subst h1
      have hf := find_comp a b n
      cases ha : Asg.find a n with
      | some t =>
        rw [ha] at hf
        simp [Trm.subst, ha, hf]
      | none =>
        rw [ha] at hf
        simp [Trm.subst, ha, hf]
    · by_cases h3 : k = 3
      · subst h3
        simp [Trm.subst, Trm.substs_comp a b l]
      · simp [Trm.subst, h1, h3]
theorem Trm.substs_comp (a b : List Asg) : ∀ l : List Trm, Trm.substs b (Trm.substs a l) = Trm.substs (Asg.comp a b) l
  | [] => rfl
  | t :: l => by simp [Trm.substs, Trm.subst_comp a b t, Trm.substs_comp a b l]
end

section
variable {gl : Globs} {prog : Prog} {prims : Prims} {I J : Nat → Nat} (tm : TabMake prog prims I J) (t2 : TabRef2 prog prims I J) (t1 : TabRef1 prog prims I J) (tp : prims (I 88) = some itoaP) (t8 : TabRef8 prog prims I J) (tl : TabL8 prog prims I J) (tt : TabTerm prog prims I J) (ta : TabLaws8a prog prims I J) (hfirst : callW gl prog prims (I 8) [] [] = some (.bool true, []))

def H3 (s : Sym) (nm : Str) (l : List Raw) (r : Raw) (acc : List Trm) (stk : List Boxes) (i : Nat) : St :=
  { env := ofList [(1, .str nm), (2, .slice (l.map fun o => .agg o.cells)), (4, .ptr (.loc 4) 0), (7, .ptr (.loc 7) 0), (9, accA 11 (acc.map fun o => .agg o.cells)), (10, .int .i64 i)], bx := ofListB [(4, some (.cells s.cells)), (7, some (.cells r.cells)), (11, none)], nb := fun _ => none, stk := stk }

include tm t2 t1 tp t8 tl tt ta hfirst
theorem law_made (s : Sym) (nm : Str) (l : List Raw) (r : Raw) (stk : List Boxes) : callW gl prog prims (I 3) [.agg s.cells, .str nm, .slice (l.map fun o => .agg o.cells), .agg r.cells] stk = some (.bool true, stk) := by
  refine callW_wp ta.h3.1 ta.h3.2 ?_
  have e1 := fewAll_spec (gl := gl) tm l 10 (by omega) (by omega) []
  have e2 := few_spec (gl := gl) tm r 20 (by omega) (by omega) []
  cases h1 : Raw.fewAll l 10 with
  | false => rw [h1] at e1; simp [C.F3, hfirst, e1]
  | true =>
    rw [h1] at e1
    cases h2 : r.few 20 with
    | false => rw [h2] at e2; simp [C.F3, hfirst, e1, e2]
    | true =>
      rw [h2] at e2
      have hs1 : r.small := by simp [Raw.few] at h2; exact Raw.few_small r 20 h2
      obtain ⟨hs2, hl⟩ := Raw.fewAll_small h1
      simp [C.F3, hfirst, e1, e2]
      have loop : ∀ (q : List Raw) (i : Nat) (acc : List Trm), l.drop i = q → acc.length = i → ∀ s0, project [1, 2, 4, 7, 9, 10] [4, 7, 11] s0 = some (H3 s nm l r acc stk i) →
          wpl gl (callW gl prog prims) [1, 2, 4, 7, 9, 10] [4, 7, 11] (C.F3_0 I J) s0 fun x fin => x = .exit 0 ∧ ∃ j, PJ [1, 2, 4, 7, 9, 10] [4, 7, 11] fin (H3 s nm l r (acc ++ Raw.terms q) stk j) := by
        intro q
        induction q with
        | nil =>
          intro i acc hq hal s0 hp0
          have hl := drop_nil hq
          refine wpl_step hp0 ?_
          have : ¬ i < l.length := by omega
          simp [H3, C.F3_0, this, Raw.terms, PJ]
          exact ⟨i, rfl⟩
        | cons x q ih =>
          intro i acc hq hal s0 hp0
          obtain ⟨hi, hx, hq2, hm⟩ := drop_cons hq
          have hrec := made_spec (gl := gl) tm t2 t1 tp t8 tl x (Raw.smalls_mem hs2 _ hm) []
          have hw := wrap64 ((i : Int) + 1) (by omega) (by omega)
          have hcap : acc.length + 1 ≤ maxCount := by unfold maxCount; omega
          have hcap1 : 1 ≤ maxCount := by unfold maxCount; omega
          refine wpl_step hp0 ?_
          rcases acc_cases 11 (acc.map fun o => .agg o.cells) with ⟨e, e2⟩ | ⟨e, e2⟩ <;> simp at e2 <;> simp [H3, C.F3_0, hi, hx, hrec, e, hcap, hcap1, hw] <;>
            exact wpl_mono (ih (i + 1) (acc ++ [x.term]) hq2 (by simp [hal]) _ (by simp [H3, e2])) (fun x fin h => by simpa [H3, Raw.terms] using h)
      refine wpk_loop (wpl_mono (loop l 0 [] rfl rfl _ (by simp [H3])) ?_)
      rintro x fin ⟨rfl, j, h1⟩
      have g1 := project_env h1 1 (by simp)
      have g2 := project_env h1 2 (by simp)
      have g4 := project_env h1 4 (by simp)
      have g7 := project_env h1 7 (by simp)
      have g9 := project_env h1 9 (by simp)
      have b4 := project_bx h1 4 (by simp)
      have b7 := project_bx h1 7 (by simp)
      have b11 := project_bx h1 11 (by simp)
      have es := project_stk h1
      simp [H3] at g1 g2 g4 g7 g9 b4 b7 b11 es
      have ho := object_spec (gl := gl) tm t2 t1 tp r hs1 []
      have v1 := t_var (gl := gl) tt s []
      have v2 := r8_var (gl := gl) t8 s []
      have c1 := t_const (gl := gl) tt r.obj []
      have c2 := r8_const (gl := gl) t8 r.obj []
      have a1 := t_app (gl := gl) tt s (Raw.terms l) []
      have a2 := r8_app (gl := gl) t8 s (Raw.terms l) []
      have l1 := t_lisp (gl := gl) tt nm (Raw.terms l) []
      have l2 := r8_lisp (gl := gl) t8 t2 nm (Raw.terms l) []
      have hok := Raw.terms_ok l hs2
      have hlt : (Raw.terms l).length < 1000000 := by rw [Raw.terms_eq]; simp; omega
      have q1 := r8_equal (gl := gl) t8 t2 (Trm.var s) (Trm.var s) ⟨obj_zero_ok, by simp, trivial⟩ []
      have q2 := r8_equal (gl := gl) t8 t2 (Trm.const r.obj) (Trm.const r.obj) ⟨Raw.obj_ok _, by simp, trivial⟩ []
      have q3 := r8_equal (gl := gl) t8 t2 (Trm.app s (Raw.terms l)) (Trm.app s (Raw.terms l)) ⟨obj_zero_ok, hlt, hok.1⟩ []
      have q4 := r8_equal (gl := gl) t8 t2 (Trm.app (Sym.lisp nm) (Raw.terms l)) (Trm.app (Sym.lisp nm) (Raw.terms l)) ⟨obj_zero_ok, hlt, hok.1⟩ []
      rw [Trm.eq_refl] at q1 q2 q3 q4
      simp [g1, g2, g4, g7, g9, b4, b7, b11, es, ho, v1, v2, c1, c2, a1, a2, l1, l2, q1, q2, q3, q4]

def H1 (r : Raw) (t : Trm) (a b : List Asg) (acc : List Asg) (stk : List Boxes) (i : Nat) : St :=
  { env := ofList [(7, .ptr (.loc 7) 0), (8, .slice (a.map fun o => .agg o.cells)), (9, .slice (b.map fun o => .agg o.cells)), (10, accA 13 (acc.map fun o => .agg o.cells)), (11, .int .i64 i)], bx := ofListB [(3, some (.cells r.cells)), (7, some (.cells t.cells))], nb := fun _ => none, stk := stk }

theorem law_composes (r : Raw) (l m : List Raw) (stk : List Boxes) : callW gl prog prims (I 1) [.agg r.cells, .slice (l.map fun o => .agg o.cells), .slice (m.map fun o => .agg o.cells)] stk = some (.bool true, stk) := by
  refine callW_wp ta.h1.1 ta.h1.2 ?_
  have e1 := few_spec (gl := gl) tm r 20 (by omega) (by omega) []
  have e2 := fewAll_spec (gl := gl) tm l 6 (by omega) (by omega) []
  have e3 := fewAll_spec (gl := gl) tm m 6 (by omega) (by omega) []
  cases h1 : r.few 20 with
  | false => rw [h1] at e1; simp [C.F1, hfirst, e1]
  | true =>
    rw [h1] at e1
    cases h2 : Raw.fewAll l 6 with
    | false => rw [h2] at e2; simp [C.F1, hfirst, e1, e2]
    | true =>
      rw [h2] at e2
      cases h3 : Raw.fewAll m 6 with
      | false => rw [h3] at e3; simp [C.F1, hfirst, e1, e2, e3]
      | true =>
        rw [h3] at e3
        have hs1 : r.small := by simp [Raw.few] at h1; exact Raw.few_small r 20 h1
        obtain ⟨hs2, hl2⟩ := Raw.fewAll_small h2
        obtain ⟨hs3, hl3⟩ := Raw.fewAll_small h3
        have f1 := made_spec (gl := gl) tm t2 t1 tp t8 tl r hs1 []
        have f2 := assigns_spec (gl := gl) tm t2 t1 tp t8 tl l (by omega) hs2 []
        have f3 := assigns_spec (gl := gl) tm t2 t1 tp t8 tl m (by omega) hs3 []
        have ho := Raw.term_ok r hs1
        have hao := asg_ok hs2
        have hbo := asg_ok hs3
        have hal : (l.map Raw.asg).length ≤ 8 := by simpa using hl2
        have hbl : (m.map Raw.asg).length ≤ 8 := by simpa using hl3
        generalize ha : l.map Raw.asg = a at f2 hao hal
        generalize hb : m.map Raw.asg = b at f3 hbo hbl
        simp [C.F1, hfirst, e1, e2, e3, f1, f2, f3]
        have loop : ∀ (q : List Asg) (i : Nat) (acc : List Asg), a.drop i = q → acc.length = i → ∀ s0, project [7, 8, 9, 10, 11] [3, 7] s0 = some (H1 r r.term a b acc stk i) →
            wpl gl (callW gl prog prims) [7, 8, 9, 10, 11] [3, 7] (C.F1_0 I J) s0 fun x fin => x = .exit 0 ∧ ∃ j, PJ [7, 8, 9, 10, 11] [3, 7] fin (H1 r r.term a b (acc ++ q.map fun x => ⟨x.var, x.term.subst b⟩) stk j) := by
          intro q
          induction q with
          | nil =>
            intro i acc hq hal s0 hp0
            have hl := drop_nil hq
            refine wpl_step hp0 ?_
            have : ¬ i < a.length := by omega
            simp [H1, C.F1_0, this, PJ]
            exact ⟨i, rfl⟩
          | cons x q ih =>
            intro i acc hq hal s0 hp0
            obtain ⟨hi, hx, hq2, hm⟩ := drop_cons hq
            have hxo := hao x hm
            have hrec := t_subst (gl := gl) tt b (by omega) x.term hxo.1 hxo.2 []
            have hw := wrap64 ((i : Int) + 1) (by omega) (by omega)
            have hcap : acc.length + 1 ≤ maxCount := by unfold maxCount; omega
            have hcap1 : 1 ≤ maxCount := by unfold maxCount; omega
            refine wpl_step hp0 ?_
            rcases acc_cases 13 (acc.map fun o => .agg o.cells) with ⟨e, e2⟩ | ⟨e, e2⟩ <;> simp at e2 <;> simp [H1, C.F1_0, hi, hx, asg_take2, asg_drop2, hrec, Sym.cells, e, hcap, hcap1, hw] <;>
              exact wpl_mono (ih (i + 1) (acc ++ [⟨x.var, x.term.subst b⟩]) hq2 (by simp [hal]) _ (by simp [H1, e2, asg_cells])) (fun x fin h => by simpa [H1, asg_cells] using h)
        refine wpk_loop (wpl_mono (loop a 0 [] rfl rfl _ (by simp [H1])) ?_)
        rintro x fin ⟨rfl, j, h1⟩
        have g7 := project_env h1 7 (by simp)
        have g8 := project_env h1 8 (by simp)
        have g9 := project_env h1 9 (by simp)
        have g10 := project_env h1 10 (by simp)
        have b3 := project_bx h1 3 (by simp)
        have b7 := project_bx h1 7 (by simp)
        have es := project_stk h1
        simp only [List.nil_append] at g10
        generalize hc : (a.map fun x => (⟨x.var, x.term.subst b⟩ : Asg)) = c at g10
        simp [H1] at g7 g8 g9 g10 b3 b7 es
        have hcomp : c ++ b = Asg.comp a b := by rw [← hc]; rfl
        have hcl : c.length ≤ 8 := by rw [← hc]; simpa using hal
        have s1 := t_subst (gl := gl) tt a (by omega) r.term ho.1 ho.2 []
        have so := Trm.subst_ok a hao _ ho.1 ho.2
        have s2 := t_subst (gl := gl) tt b (by omega) (r.term.subst a) so.1 so.2 []
        have so2 := Trm.subst_ok b hbo _ so.1 so.2
        have s3 := t_subst (gl := gl) tt (c ++ b) (by simp; omega) r.term ho.1 ho.2 []
        rw [hcomp, ← Trm.subst_comp] at s3
        have q := t_equal (gl := gl) tt ((r.term.subst a).subst b) ((r.term.subst a).subst b) so2.1 []
        rw [Trm.eq_refl] at q
        have hcap : b.length ≤ maxCount := by unfold maxCount; omega
        have hcap2 : c.length + b.length ≤ maxCount := by unfold maxCount; omega
        rw [← hcomp] at s3
        rcases acc_cases 13 (c.map fun o => .agg o.cells) with ⟨e, e2⟩ | ⟨e, e2⟩ <;> simp at e2
        · subst e2
          cases hbb : b with
          | nil =>
            subst hbb
            simp at s2 s3 q e
            simp [g7, g8, g9, g10, b3, b7, es, e, s1, s2, s3, q]
          | cons b0 bs =>
            subst hbb
            simp at s2 s3 q hcap
            simp [g7, g8, g9, g10, b3, b7, es, hcap, s1, s2, s3, q]
        · simp at s3
          simp [g7, g8, g9, g10, b3, b7, es, e, hcap2, s1, s2, s3, q]
end
end Go.Vs

namespace Go.Vs
open Go
set_option linter.unusedSimpArgs false
set_option linter.unusedVariables false

structure TabTermB (prog : Prog) (prims : Prims) (I J : Nat → Nat) : Prop where
  h17 : prims (I 17) = none ∧ prog (I 17) = some (C.F17 I J)
  h19 : prims (I 19) = none ∧ prog (I 19) = some (C.F19 I J)
  h22 : prims (I 22) = none ∧ prog (I 22) = some (C.F22 I J)
  h60 : prims (I 60) = none ∧ prog (I 60) = some (C.F60 I J)
  h61 : prims (I 61) = none ∧ prog (I 61) = some (C.F61 I J)
  h87 : prims (I 87) = none ∧ prog (I 87) = some (C.F87 I J)
  h105 : prims (I 105) = none ∧ prog (I 105) = some (C.F105 I J)
  h125 : prims (I 125) = none ∧ prog (I 125) = some (C.F125 I J)
structure TabLaws8b (prog : Prog) (prims : Prims) (I J : Nat → Nat) : Prop where
  h2 : prims (I 2) = none ∧ prog (I 2) = some (C.F2 I J)
  h4 : prims (I 4) = none ∧ prog (I 4) = some (C.F4 I J)
  h21 : prims (I 21) = none ∧ prog (I 21) = some (C.F21 I J)

theorem stkGet_app (U : List Boxes) (b : Boxes) (r : List Boxes) : stkGet (U ++ b :: r) r.length = b := by
  induction U with
  | nil => simp
  | cons a U ih =>
    have : Nat.beq r.length (U ++ b :: r).length = false := by rw [← Bool.not_eq_true, Nat.beq_eq]; simp; omega
    simp only [List.cons_append, stkGet, this, cond_false]
    exact ih

theorem stkSet_app (U : List Boxes) (b b' : Boxes) (r : List Boxes) : stkSet (U ++ b :: r) r.length b' = U ++ b' :: r := by
  induction U with
  | nil => simp [stkSet]
  | cons a U ih =>
    have : Nat.beq r.length (U ++ b :: r).length = false := by rw [← Bool.not_eq_true, Nat.beq_eq]; simp; omega
    simp only [List.cons_append, stkSet, this, cond_false]
    rw [ih]

mutual
/-- A walk over the subterms of a term, a term before its arguments, till f says no. -/
def Trm.walk {σ : Type} (f : Trm → σ → Bool × σ) : Trm → σ → Bool × σ
  | .mk k n v a, s => match f (.mk k n v a) s with
    | (false, s') => (false, s')
    | (true, s') => if k = 3 then Trm.walks f a s' else (true, s')
def Trm.walks {σ : Type} (f : Trm → σ → Bool × σ) : List Trm → σ → Bool × σ
  | [], s => (true, s)
  | t :: l, s => match Trm.walk f t s with
    | (false, s') => (false, s')
    | (true, s') => Trm.walks f l s'
end

/-- A walk that remembers nothing. -/
def yes (p : Trm → Bool) : Trm → Unit → Bool × Unit := fun x _ => (p x, ())

theorem kept_glb2 (g d m n : Nat) (l : List Nat) : AV.keptBy l (.fn g [.ptr (.glb d m) 0, .ptr (.glb d n) 0]) = true := by simp [AV.keptBy, AV.refs, AV.refsS, Ref.keptBy]
theorem kept_glb1 (g d m : Nat) (l : List Nat) : AV.keptBy l (.fn g [.ptr (.glb d m) 0]) = true := by simp [AV.keptBy, AV.refs, AV.refsS, Ref.keptBy]

mutual
/-- Is the one a subterm of the other? -/
def Trm.occ (o : Trm) : Trm → Bool
  | .mk k n v a => Trm.eq o (.mk k n v a) || (decide (k = 3) && Trm.occs o a)
def Trm.occs (o : Trm) : List Trm → Bool
  | [] => false
  | t :: l => Trm.occ o t || Trm.occs o l
end

theorem Trm.eq_comm (a b : Trm) : Trm.eq a b = Trm.eq b a := by
  cases h : Trm.eq b a with
  | true => rw [Trm.eq_iff] at h ⊢; exact h.symm
  | false => rw [← Bool.not_eq_true, Trm.eq_iff] at h ⊢; exact fun e => h e.symm

mutual
theorem walk_occ (o : Trm) : ∀ t : Trm, (t.walk (yes fun x => !(Trm.eq x o)) ()).1 = !(Trm.occ o t)
  | .mk k n v a => by
    simp only [Trm.walk, yes, Trm.occ, Trm.eq_comm o]
    cases h : Trm.eq (.mk k n v a) o with
    | true => rfl
    | false =>
      by_cases h3 : k = 3
      · simp [h3]
        exact walks_occ o a
      · simp [h3]
theorem walks_occ (o : Trm) : ∀ l : List Trm, (Trm.walks (yes fun x => !(Trm.eq x o)) l ()).1 = !(Trm.occs o l)
  | [] => rfl
  | t :: l => by
    have h1 := walk_occ o t
    have h2 := walks_occ o l
    simp only [Trm.walks, Trm.occs]
    rcases hw : Trm.walk (yes fun x => !(Trm.eq x o)) t () with ⟨b, u⟩
    rw [hw] at h1
    cases b with
    | false =>
      have : Trm.occ o t = true := by simpa using h1.symm
      simp [this]
    | true =>
      have : Trm.occ o t = false := by simpa using h1.symm
      simp [this]
      exact h2
end

mutual
/-- A term with its subterms that equal the old one replaced by the new one. -/
def Trm.repl (o n : Trm) : Trm → Trm
  | .mk k s v a => if Trm.eq (.mk k s v a) o = true then n else if k = 3 then .mk 3 s v (Trm.repls o n a) else .mk k s v a
def Trm.repls (o n : Trm) : List Trm → List Trm
  | [] => []
  | t :: l => Trm.repl o n t :: Trm.repls o n l
end

theorem Trm.repls_eq (o n : Trm) : ∀ l, Trm.repls o n l = l.map (Trm.repl o n)
  | [] => rfl
  | a :: l => by simp [Trm.repls, Trm.repls_eq o n l]

section
variable {gl : Globs} {prog : Prog} {prims : Prims} {I J : Nat → Nat} (tt : TabTerm prog prims I J)

def H59 (t : Trm) (g : Nat) (caps : List AV) (a : List Trm) (stk : List Boxes) (i : Nat) : St :=
  { env := ofList [(1, .fn g caps), (15, .slice (a.map fun o => .agg o.cells)), (16, .int .i64 a.length), (17, .int .i64 i)], bx := ofListB [(2, some (.cells t.cells))], nb := fun _ => none, stk := stk }

include tt
theorem t_walk {σ : Type} (base : σ → List Boxes) (g : Nat) (caps : List AV) (hc : ∀ l, AV.keptBy l (.fn g caps) = true) (hcp : ∀ n, caps.map (AV.globS n) = caps) (f : Trm → σ → Bool × σ)
    (hf : ∀ (x : Trm) (U : List Boxes) (s : σ), x.ok → callW gl prog prims g (.agg x.cells :: caps) (U ++ base s) = some (.bool (f x s).1, U ++ base (f x s).2)) :
    ∀ (t : Trm), t.ok → ∀ (U : List Boxes) (s : σ), callW gl prog prims (I 59) [.agg t.cells, .fn g caps] (U ++ base s) = some (.bool (t.walk f s).1, U ++ base (t.walk f s).2)
  | .mk k n v a, hok, U, s => by
    refine callW_wp tt.h59.1 tt.h59.2 ?_
    have h1 := fun b => hf (.mk k n v a) (b :: U) s hok
    simp only [List.cons_append] at h1
    simp only [Trm.walk]
    rcases hfs : f (.mk k n v a) s with ⟨b0, s'⟩
    rw [hfs] at h1
    cases b0 with
    | false => simp [C.F59, hcp, h1]
    | true =>
      by_cases h3 : k = 3
      · subst h3
        simp [C.F59, trm_cells] at h1 ⊢
        simp [hcp, h1]
        have loop : ∀ (q : List Trm) (i : Nat) (s1 : σ), a.drop i = q → ∀ s0, project [1, 15, 16, 17] [2] s0 = some (H59 (.mk 3 n v a) g caps a (U ++ base s1) i) →
            wpl gl (callW gl prog prims) [1, 15, 16, 17] [2] (C.F59_0 I J) s0 fun x fin => fin.stk = U ++ base (Trm.walks f q s1).2 ∧ if (Trm.walks f q s1).1 = true then x = .exit 0 else x = .ret ∧ fin.env 4 = .bool false := by
          intro q
          induction q with
          | nil =>
            intro i s1 hq s0 hp0
            have hl := drop_nil hq
            refine wpl_step hp0 ?_
            have : ¬ i < a.length := by omega
            simp [H59, C.F59_0, this, Trm.walks]
          | cons x q ih =>
            intro i s1 hq s0 hp0
            obtain ⟨hi, hx, hq2, hm⟩ := drop_cons hq
            have hlen := hok.2.1
            have hw := wrap64 ((i : Int) + 1) (by omega) (by omega)
            have hrec := fun b => t_walk base g caps hc hcp f hf x (Trm.oks_mem hok.2.2 _ hm) (b :: U) s1
            simp only [List.cons_append] at hrec
            refine wpl_step hp0 ?_
            rcases hws : Trm.walk f x s1 with ⟨b1, s2⟩
            rw [hws] at hrec
            cases b1 with
            | false =>
              simp [H59, C.F59_0, hi, hx, hcp, hrec, Trm.walks, hws]
            | true =>
              simp [H59, C.F59_0, hi, hx, hcp, hrec, Trm.walks, hws, hw]
              exact wpl_mono (ih (i + 1) s2 hq2 _ (by simp [H59, hc])) (fun x fin h => by simpa [H59] using h)
        refine wpk_loop (wpl_mono (loop a 0 s' rfl _ (by simp [H59, hc, trm_cells])) ?_)
        rintro x fin ⟨h4, h5⟩
        cases hb : (Trm.walks f a s').1 with
        | false => rw [hb] at h5; simp at h5; simp [h4, h5]
        | true => rw [hb] at h5; simp at h5; simp [h4, h5]
      · have b3 : (k == 3) = false := by simpa using h3
        simp [C.F59, trm_cells] at h1 ⊢
        simp [hcp, h1, b3, h3]
termination_by t => SizeOf.sizeOf t
decreasing_by
  have := List.sizeOf_lt_of_mem hm
  simp
  omega

theorem t_occurs1 (x o : Trm) (d : Nat) (stk : List Boxes) (hd : stkGet stk d 2 = some (.cells o.cells)) (hx : x.ok) :
    callW gl prog prims (I 75) [.agg x.cells, .ptr (.glb d 2) 0] stk = some (.bool (!(Trm.eq x o)), stk) := by
  refine callW_wp tt.h75.1 tt.h75.2 ?_
  have e := t_equal (gl := gl) tt x o hx []
  simp [C.F75, hd, e]

theorem t_occurs (o t : Trm) (ht : t.ok) (stk : List Boxes) : callW gl prog prims (I 34) [.agg o.cells, .agg t.cells] stk = some (.bool (Trm.occ o t), stk) := by
  refine callW_wp tt.h34.1 tt.h34.2 ?_
  have hw : ∀ b : Boxes, b 2 = some (.cells o.cells) → callW gl prog prims (I 59) [.agg t.cells, .fn (I 75) [.ptr (.glb stk.length 2) 0]] (b :: stk) = some (.bool (!(Trm.occ o t)), b :: stk) := by
    intro b hb
    have := t_walk (gl := gl) tt (fun _ : Unit => b :: stk) (I 75) [.ptr (.glb stk.length 2) 0] (kept_glb1 _ _ _) (by simp) (yes fun x => !(Trm.eq x o))
      (fun x U _ hx => t_occurs1 tt x o stk.length (U ++ b :: stk) (by rw [stkGet_app]; exact hb) hx) t ht [] ()
    simpa [walk_occ] using this
  have := hw (mergeB (upd (upd (fun x => none) 2 (some (.cells o.cells))) 3 (some (.cells t.cells))) (fun _ => none)) (by simp)
  simp [C.F34, this]

theorem t_replace1 (x o n : Trm) (d : Nat) (stk : List Boxes) (h4 : stkGet stk d 4 = some (.cells o.cells)) (h5 : stkGet stk d 5 = some (.cells n.cells))
    (hrec : callW gl prog prims (I 33) [.agg x.cells, .agg o.cells, .agg n.cells] [] = some (.agg (Trm.repl o n x).cells, [])) :
    callW gl prog prims (I 74) [.agg x.cells, .ptr (.glb d 4) 0, .ptr (.glb d 5) 0] stk = some (.agg (Trm.repl o n x).cells, stk) := by
  refine callW_wp tt.h74.1 tt.h74.2 ?_
  simp [C.F74, h4, h5, hrec]

theorem t_replace (o n : Trm) : ∀ (t : Trm), t.ok → ∀ stk, callW gl prog prims (I 33) [.agg t.cells, .agg o.cells, .agg n.cells] stk = some (.agg (Trm.repl o n t).cells, stk)
  | .mk k s v a, hok, stk => by
    refine callW_wp tt.h33.1 tt.h33.2 ?_
    have e := t_equal (gl := gl) tt (.mk k s v a) o hok []
    have hw : ∀ (b : Boxes), b 4 = some (.cells o.cells) → b 5 = some (.cells n.cells) → callW gl prog prims (I 53) [.agg (Trm.mk k s v a).cells, .fn (I 74) [.ptr (.glb stk.length 4) 0, .ptr (.glb stk.length 5) 0]] (b :: stk) = some (.agg ((Trm.mk k s v a).withA (Trm.repl o n)).cells, b :: stk) := by
      intro b h4 h5
      refine t_with tt _ _ hok _ _ _ (kept_glb2 _ _ _ _) (by simp) ?_
      intro x hx b'
      have hm : x ∈ a := by
        simp only [Trm.argl] at hx
        split at hx
        · exact hx
        · simp at hx
      have hrec := t_replace o n x (Trm.oks_mem hok.2.2 _ hm) []
      exact t_replace1 tt x o n stk.length _ (by simp [h4]) (by simp [h5]) hrec
    cases he : Trm.eq (.mk k s v a) o with
    | true =>
      rw [he] at e
      simp [C.F33, e, Trm.repl, he]
    | false =>
      rw [he] at e
      have := hw (mergeB (upd (upd (upd (upd (fun x => none) 3 (some (.cells (Trm.mk k s v a).cells))) 4 (some (.cells o.cells))) 5 (some (.cells n.cells))) 6 (some (.cells Trm.zero.cells))) (fun _ => none)) (by simp) (by simp)
      rw [trm_zero_cells] at this
      by_cases h3 : k = 3
      · subst h3
        simp [C.F33, e, this, Trm.repl, he, Trm.withA, Trm.repls_eq]
      · simp [C.F33, e, this, Trm.repl, he, Trm.withA, h3]
termination_by t => SizeOf.sizeOf t
decreasing_by
  have := List.sizeOf_lt_of_mem hm
  simp
  omega
end
end Go.Vs

namespace Go.Vs
open Go
set_option linter.unusedSimpArgs false
set_option linter.unusedVariables false

mutual
theorem repl_ok (o n : Trm) (hn : n.ok ∧ n.fit) : ∀ t : Trm, t.ok → t.fit → (Trm.repl o n t).ok ∧ (Trm.repl o n t).fit
  | .mk k s v a, h, hf => by
    unfold Trm.repl
    split
    · exact hn
    · split
      · rename_i h3
        have hl := repls_ok o n hn a h.2.2 hf.2
        have hlen : (Trm.repls o n a).length = a.length := by simp [Trm.repls_eq]
        exact ⟨⟨h.1, by rw [hlen]; exact h.2.1, hl.1⟩, fun _ => hf.1 h3, hl.2⟩
      · exact ⟨h, hf⟩
theorem repls_ok (o n : Trm) (hn : n.ok ∧ n.fit) : ∀ l : List Trm, Trm.oks l → Trm.fits l → Trm.oks (Trm.repls o n l) ∧ Trm.fits (Trm.repls o n l)
  | [], _, _ => ⟨trivial, trivial⟩
  | t :: l, h, hf => ⟨⟨(repl_ok o n hn t h.1 hf.1).1, (repls_ok o n hn l h.2 hf.2).1⟩, (repl_ok o n hn t h.1 hf.1).2, (repls_ok o n hn l h.2 hf.2).2⟩
end

mutual
theorem repl_none (o n : Trm) : ∀ t : Trm, Trm.occ o t = false → Trm.repl o n t = t
  | .mk k s v a, h => by
    simp only [Trm.occ, Bool.or_eq_false_iff] at h
    have h1 : Trm.eq (.mk k s v a) o = false := by rw [Trm.eq_comm]; exact h.1
    simp only [Trm.repl, h1]
    by_cases h3 : k = 3
    · subst h3
      have h2 : Trm.occs o a = false := by simpa using h.2
      simp [repls_none o n a h2]
    · simp [h3]
theorem repls_none (o n : Trm) : ∀ l : List Trm, Trm.occs o l = false → Trm.repls o n l = l
  | [], _ => rfl
  | t :: l, h => by
    simp only [Trm.occs, Bool.or_eq_false_iff] at h
    simp only [Trm.repls, repl_none o n t h.1, repls_none o n l h.2]
end

section
variable {gl : Globs} {prog : Prog} {prims : Prims} {I J : Nat → Nat} (tm : TabMake prog prims I J) (t2 : TabRef2 prog prims I J) (t1 : TabRef1 prog prims I J) (tp : prims (I 88) = some itoaP) (t8 : TabRef8 prog prims I J) (tl : TabL8 prog prims I J) (tt : TabTerm prog prims I J) (tb : TabLaws8b prog prims I J) (hfirst : callW gl prog prims (I 8) [] [] = some (.bool true, []))

def H35 (o t : Trm) (a : List Trm) (stk : List Boxes) (i : Nat) : St :=
  { env := ofList [(2, .ptr (.loc 2) 0), (5, .slice (a.map fun o => .agg o.cells)), (6, .int .i64 i)], bx := ofListB [(2, some (.cells o.cells)), (3, some (.cells t.cells))], nb := fun _ => none, stk := stk }

include t8 t2
theorem r8_occurs (o : Trm) (ho : o.ok) : ∀ (t : Trm), t.ok → ∀ stk, callW gl prog prims (I 35) [.agg o.cells, .agg t.cells] stk = some (.bool (Trm.occ o t), stk)
  | .mk k n v a, hok, stk => by
    refine callW_wp t8.h35.1 t8.h35.2 ?_
    have e := r8_equal (gl := gl) t8 t2 o (.mk k n v a) ho []
    have ea := r8_args (gl := gl) t8 (.mk k n v a) []
    cases he : Trm.eq o (.mk k n v a) with
    | true =>
      rw [he] at e
      simp [C.F35, e, Trm.occ, he]
    | false =>
      rw [he] at e
      have hlen := hok.2.1
      have hal : ∀ x ∈ (Trm.mk k n v a).argl, x ∈ a := by
        intro x hx
        simp only [Trm.argl] at hx
        split at hx
        · exact hx
        · simp at hx
      have hll : (Trm.mk k n v a).argl.length < 1000000 := by
        simp only [Trm.argl]
        split
        · exact hlen
        · simp
      have hocc : Trm.occ o (.mk k n v a) = Trm.occs o (Trm.mk k n v a).argl := by
        simp only [Trm.occ, he, Bool.false_or, Trm.argl]
        by_cases h3 : k = 3 <;> simp [h3, Trm.occs]
      rw [hocc]
      generalize (Trm.mk k n v a).argl = l at ea hal hll
      simp [C.F35, e, ea]
      have loop : ∀ (q : List Trm) (i : Nat), l.drop i = q → ∀ s0, project [2, 5, 6] [2, 3] s0 = some (H35 o (.mk k n v a) l stk i) →
          wpl gl (callW gl prog prims) [2, 5, 6] [2, 3] (C.F35_0 I J) s0 fun x fin => fin.stk = stk ∧ if Trm.occs o q = true then x = .ret ∧ fin.env 4 = .bool true else x = .exit 0 := by
        intro q
        induction q with
        | nil =>
          intro i hq s0 hp0
          have hl := drop_nil hq
          refine wpl_step hp0 ?_
          have : ¬ i < l.length := by omega
          simp [H35, C.F35_0, this, Trm.occs]
        | cons x q ih =>
          intro i hq s0 hp0
          obtain ⟨hi, hx, hq2, hm⟩ := drop_cons hq
          have hma := hal x hm
          have hw := wrap64 ((i : Int) + 1) (by omega) (by omega)
          have hrec := r8_occurs o ho x (Trm.oks_mem hok.2.2 _ hma) []
          refine wpl_step hp0 ?_
          cases hb : Trm.occ o x with
          | true =>
            rw [hb] at hrec
            simp [H35, C.F35_0, hi, hx, hrec, Trm.occs, hb]
          | false =>
            rw [hb] at hrec
            simp [H35, C.F35_0, hi, hx, hrec, Trm.occs, hb, hw]
            exact wpl_mono (ih (i + 1) hq2 _ (by simp [H35])) (fun x fin h => by simpa using h)
      refine wpk_loop (wpl_mono (loop l 0 rfl _ (by simp [H35])) ?_)
      rintro x fin ⟨h4, h5⟩
      cases hb : Trm.occs o l with
      | false => rw [hb] at h5; simp at h5; simp [h4, h5]
      | true => rw [hb] at h5; simp at h5; simp [h4, h5]
termination_by t => SizeOf.sizeOf t
decreasing_by
  have := List.sizeOf_lt_of_mem hma
  simp
  omega

def H36 (t o m : Trm) (acc : List Trm) (stk : List Boxes) (i : Nat) : St :=
  { env := ofList [(3, .ptr (.loc 3) 0), (4, .ptr (.loc 4) 0), (5, .ptr (.loc 5) 0), (6, .ptr (.loc 6) 0), (7, accA 11 (acc.map fun o => .agg o.cells)), (8, .int .i64 i)], bx := ofListB [(3, some (.cells t.cells)), (4, some (.cells o.cells)), (5, some (.cells m.cells)), (6, some (.cells Trm.zero.cells))], nb := fun _ => none, stk := stk }

theorem r8_replace (o m : Trm) : ∀ (t : Trm), t.ok → t.fit → ∀ stk, callW gl prog prims (I 36) [.agg t.cells, .agg o.cells, .agg m.cells] stk = some (.agg (Trm.repl o m t).cells, stk)
  | .mk k n v a, hok, hfit, stk => by
    refine callW_wp t8.h36.1 t8.h36.2 ?_
    have e := r8_equal (gl := gl) t8 t2 (.mk k n v a) o hok []
    cases he : Trm.eq (.mk k n v a) o with
    | true =>
      rw [he] at e
      simp [C.F36, e, Trm.repl, he]
    | false =>
      rw [he] at e
      by_cases h3 : k = 3
      · subst h3
        obtain rfl := hfit.1 rfl
        simp [trm_cells] at e
        simp [C.F36, trm_cells, e]
        have hlen := hok.2.1
        have loop : ∀ (q : List Trm) (i : Nat) (acc : List Trm), a.drop i = q → acc.length = i → ∀ s0, project [3, 4, 5, 6, 7, 8] [3, 4, 5, 6] s0 = some (H36 (.mk 3 n Obj.zero a) o m acc stk i) →
            wpl gl (callW gl prog prims) [3, 4, 5, 6, 7, 8] [3, 4, 5, 6] (C.F36_0 I J) s0 fun x fin => x = .exit 0 ∧ ∃ j, PJ [3, 4, 5, 6, 7, 8] [3, 4, 5, 6] fin (H36 (.mk 3 n Obj.zero a) o m (acc ++ Trm.repls o m q) stk j) := by
          intro q
          induction q with
          | nil =>
            intro i acc hq hal s0 hp0
            have hl := drop_nil hq
            refine wpl_step hp0 ?_
            have : ¬ i < a.length := by omega
            simp [H36, C.F36_0, trm_cells, this, Trm.repls, PJ]
            exact ⟨i, rfl⟩
          | cons x q ih =>
            intro i acc hq hal s0 hp0
            obtain ⟨hi, hx, hq2, hm⟩ := drop_cons hq
            have hrec := r8_replace o m x (Trm.oks_mem hok.2.2 _ hm) (Trm.fits_mem hfit.2 _ hm) []
            have hw := wrap64 ((i : Int) + 1) (by omega) (by omega)
            have hcap : acc.length + 1 ≤ maxCount := by unfold maxCount; omega
            have hcap1 : 1 ≤ maxCount := by unfold maxCount; omega
            refine wpl_step hp0 ?_
            rcases acc_cases 11 (acc.map fun o => .agg o.cells) with ⟨e, e2⟩ | ⟨e, e2⟩ <;> simp at e2 <;> simp [H36, C.F36_0, trm_cells, hi, hx, hrec, e, hcap, hcap1, hw] <;>
              exact wpl_mono (ih (i + 1) (acc ++ [Trm.repl o m x]) hq2 (by simp [hal]) _ (by simp [H36, trm_cells, e2])) (fun x fin h => by simpa [H36, trm_cells, Trm.repls] using h)
        refine wpk_loop (wpl_mono (loop a 0 [] rfl rfl _ (by simp [H36, trm_cells, trm_zero_cells])) ?_)
        rintro x fin ⟨rfl, j, h1⟩
        have g3 := project_env h1 3 (by simp)
        have g6 := project_env h1 6 (by simp)
        have g7 := project_env h1 7 (by simp)
        have b3 := project_bx h1 3 (by simp)
        have b6 := project_bx h1 6 (by simp)
        have es := project_stk h1
        simp [H36] at g3 g6 g7 b3 b6 es
        have ap := r8_app (gl := gl) t8 n (Trm.repls o m a) []
        simp [Sym.cells] at ap
        simp [g3, g6, g7, b3, b6, es, trm_cells, ap, Trm.repl, he, Trm.app]
      · simp [trm_cells] at e
        have b3 : (k != 3) = true := by simpa using h3
        simp [C.F36, trm_cells, e, b3, h3, Trm.repl, he]
termination_by t => SizeOf.sizeOf t
decreasing_by
  have := List.sizeOf_lt_of_mem hm
  simp
  omega

include tm t1 tp tl tt tb hfirst
theorem law_replaces (r s n : Raw) (stk : List Boxes) : callW gl prog prims (I 4) [.agg r.cells, .agg s.cells, .agg n.cells] stk = some (.bool true, stk) := by
  refine callW_wp tb.h4.1 tb.h4.2 ?_
  have e1 := few_spec (gl := gl) tm r 30 (by omega) (by omega) []
  have e2 := few_spec (gl := gl) tm s 6 (by omega) (by omega) []
  have e3 := few_spec (gl := gl) tm n 6 (by omega) (by omega) []
  cases h1 : r.few 30 with
  | false => rw [h1] at e1; simp [C.F4, hfirst, e1]
  | true =>
    rw [h1] at e1
    cases h2 : s.few 6 with
    | false => rw [h2] at e2; simp [C.F4, hfirst, e1, e2]
    | true =>
      rw [h2] at e2
      cases h3 : n.few 6 with
      | false => rw [h3] at e3; simp [C.F4, hfirst, e1, e2, e3]
      | true =>
        rw [h3] at e3
        have hs1 : r.small := by simp [Raw.few] at h1; exact Raw.few_small r 30 h1
        have hs2 : s.small := by simp [Raw.few] at h2; exact Raw.few_small s 6 h2
        have hs3 : n.small := by simp [Raw.few] at h3; exact Raw.few_small n 6 h3
        have f1 := made_spec (gl := gl) tm t2 t1 tp t8 tl r hs1 []
        have f2 := made_spec (gl := gl) tm t2 t1 tp t8 tl s hs2 []
        have f3 := made_spec (gl := gl) tm t2 t1 tp t8 tl n hs3 []
        have o1 := Raw.term_ok r hs1
        have o2 := Raw.term_ok s hs2
        have o3 := Raw.term_ok n hs3
        generalize r.term = t at f1 o1
        generalize s.term = o at f2 o2
        generalize n.term = m at f3 o3
        have a1 := t_replace (gl := gl) tt o m t o1.1 []
        have a2 := r8_replace (gl := gl) t2 t8 o m t o1.1 o1.2 []
        have a3 := t_occurs (gl := gl) tt o t o1.1 []
        have a4 := r8_occurs (gl := gl) t2 t8 o o2.1 t o1.1 []
        have ho := repl_ok o m o3 t o1.1 o1.2
        have q1 := r8_equal (gl := gl) t8 t2 (Trm.repl o m t) (Trm.repl o m t) ho.1 []
        rw [Trm.eq_refl] at q1
        cases hb : Trm.occ o t with
        | true =>
          rw [hb] at a3 a4
          simp [C.F4, hfirst, e1, e2, e3, f1, f2, f3, a1, a2, a3, a4, q1]
        | false =>
          rw [hb] at a3 a4
          rw [repl_none o m t hb] at a1 a2 q1
          simp [C.F4, hfirst, e1, e2, e3, f1, f2, f3, a1, a2, a3, a4, q1]
end
end Go.Vs

namespace Go.Vs
open Go
set_option linter.unusedSimpArgs false
set_option linter.unusedVariables false

def Sym.same (a b : Sym) : Bool := decide (a.pkg = b.pkg) && decide (a.name = b.name)
def Sym.mem (l : List Sym) (s : Sym) : Bool := l.any fun x => Sym.same x s
def Sym.ins (l : List Sym) (s : Sym) : List Sym := if Sym.mem l s = true then l else l ++ [s]
def Sym.insAll (l r : List Sym) : List Sym := r.foldl Sym.ins l
def Sym.dedupe (r : List Sym) : List Sym := Sym.insAll [] r

theorem Sym.same_iff (a b : Sym) : Sym.same a b = true ↔ a = b := by
  cases a; cases b; simp [Sym.same]
theorem Sym.mem_iff (l : List Sym) (s : Sym) : Sym.mem l s = true ↔ s ∈ l := by
  simp only [Sym.mem, List.any_eq_true, Sym.same_iff]
  constructor
  · rintro ⟨x, h, rfl⟩; exact h
  · intro h; exact ⟨s, h, rfl⟩
theorem Sym.ins_len (l : List Sym) (s : Sym) : (Sym.ins l s).length ≤ l.length + 1 := by
  unfold Sym.ins; split <;> simp
theorem Sym.insAll_len : ∀ (r l : List Sym), (Sym.insAll l r).length ≤ l.length + r.length
  | [], l => by simp [Sym.insAll]
  | a :: r, l => by
    have h1 := Sym.ins_len l a
    have h2 := Sym.insAll_len r (Sym.ins l a)
    simp only [Sym.insAll, List.foldl_cons, List.length_cons] at h2 ⊢
    omega
theorem Sym.insAll_app (l a b : List Sym) : Sym.insAll l (a ++ b) = Sym.insAll (Sym.insAll l a) b := by simp [Sym.insAll]

theorem Sym.mem_insAll : ∀ (r l : List Sym) (s : Sym), s ∈ Sym.insAll l r ↔ s ∈ l ∨ s ∈ r
  | [], l, s => by simp [Sym.insAll]
  | a :: r, l, s => by
    have := Sym.mem_insAll r (Sym.ins l a) s
    simp only [Sym.insAll, List.foldl_cons] at this ⊢
    rw [this]
    unfold Sym.ins
    split
    · rename_i h
      rw [Sym.mem_iff] at h
      constructor
      · rintro (h1 | h1)
        · exact .inl h1
        · exact .inr (by simp [h1])
      · rintro (h1 | h1)
        · exact .inl h1
        · rcases List.mem_cons.1 h1 with rfl | h1
          · exact .inl h
          · exact .inr h1
    · simp [or_assoc]

theorem Sym.ins_mem {l : List Sym} {s : Sym} (h : s ∈ l) : Sym.ins l s = l := by
  unfold Sym.ins; rw [if_pos ((Sym.mem_iff l s).2 h)]
theorem Sym.ins_not {l : List Sym} {s : Sym} (h : s ∉ l) : Sym.ins l s = l ++ [s] := by
  unfold Sym.ins; rw [if_neg (fun e => h ((Sym.mem_iff l s).1 e))]

theorem Sym.insAll_sub : ∀ (r l : List Sym), (∀ s ∈ r, s ∈ l) → Sym.insAll l r = l
  | [], l, _ => rfl
  | a :: r, l, h => by
    simp only [Sym.insAll, List.foldl_cons]
    rw [Sym.ins_mem (h a (by simp))]
    exact Sym.insAll_sub r l fun s hs => h s (by simp [hs])

/-- Insert what has been collected already in a list without doubles: the same as to insert all. -/
theorem Sym.insAll_acc : ∀ (r l acc : List Sym), Sym.insAll l (Sym.insAll acc r) = Sym.insAll (Sym.insAll l acc) r
  | [], l, acc => rfl
  | a :: r, l, acc => by
    have ih := Sym.insAll_acc r l (Sym.ins acc a)
    simp only [Sym.insAll, List.foldl_cons] at ih ⊢
    rw [ih]
    congr 1
    by_cases h : a ∈ acc
    · rw [Sym.ins_mem h]
      have : a ∈ Sym.insAll l acc := (Sym.mem_insAll acc l a).2 (.inr h)
      exact (Sym.ins_mem this).symm
    · rw [Sym.ins_not h]
      simp [List.foldl_append]
theorem Sym.insAll_dedupe (l r : List Sym) : Sym.insAll l (Sym.dedupe r) = Sym.insAll l r := Sym.insAll_acc r l []

def Trm.kind : Trm → Int
  | .mk k _ _ _ => k
def Trm.name : Trm → Sym
  | .mk _ n _ _ => n

mutual
/-- The names of the subterms of a kind, a term before its arguments. -/
def Trm.pre (k : Int) : Trm → List Sym
  | .mk kd n v a => (if kd = k then [n] else []) ++ (if kd = 3 then Trm.pres k a else [])
def Trm.pres (k : Int) : List Trm → List Sym
  | [] => []
  | t :: l => Trm.pre k t ++ Trm.pres k l
end

mutual
def Trm.nodes : Trm → Nat
  | .mk kd n v a => 1 + Trm.nodesl a
def Trm.nodesl : List Trm → Nat
  | [] => 0
  | t :: l => Trm.nodes t + Trm.nodesl l
end

theorem Trm.nodesl_mem : ∀ {l : List Trm} {t : Trm}, t ∈ l → Trm.nodes t ≤ Trm.nodesl l
  | [], _, h => by simp at h
  | a :: l, t, h => by
    rcases List.mem_cons.1 h with rfl | h
    · simp [Trm.nodesl]
    · have := Trm.nodesl_mem h
      simp only [Trm.nodesl]; omega

mutual
theorem Trm.pre_len (k : Int) : ∀ t : Trm, (Trm.pre k t).length ≤ Trm.nodes t
  | .mk kd n v a => by
    have := Trm.pres_len k a
    simp only [Trm.pre, Trm.nodes, List.length_append]
    split <;> split <;> simp <;> omega
theorem Trm.pres_len (k : Int) : ∀ l : List Trm, (Trm.pres k l).length ≤ Trm.nodesl l
  | [] => by simp [Trm.pres]
  | t :: l => by
    have h1 := Trm.pre_len k t
    have h2 := Trm.pres_len k l
    simp only [Trm.pres, Trm.nodesl, List.length_append]
    omega
end

/-- What the program's walk does with the names of a kind. -/
def coll (k : Int) : Trm → List Sym → Bool × List Sym := fun x s => (true, if x.kind = k then Sym.ins s x.name else s)

mutual
theorem walk_coll (k : Int) : ∀ (t : Trm) (s : List Sym), t.walk (coll k) s = (true, Sym.insAll s (Trm.pre k t))
  | .mk kd n v a, s => by
    have hf : coll k (.mk kd n v a) s = (true, Sym.insAll s (if kd = k then [n] else [])) := by
      show (true, if kd = k then Sym.ins s n else s) = _
      split <;> rfl
    simp only [Trm.walk, hf, Trm.pre, Sym.insAll_app]
    by_cases h3 : kd = 3
    · simp only [h3, if_true]
      exact walks_coll k a _
    · simp [h3, Sym.insAll]
theorem walks_coll (k : Int) : ∀ (l : List Trm) (s : List Sym), Trm.walks (coll k) l s = (true, Sym.insAll s (Trm.pres k l))
  | [], s => rfl
  | t :: l, s => by
    simp only [Trm.walks, walk_coll k t s, walks_coll k l, Trm.pres, Sym.insAll_app]
end

mutual
theorem walk_ground : ∀ t : Trm, (t.walk (yes fun x => x.kind != 1) ()).1 = (Trm.pre 1 t).isEmpty
  | .mk kd n v a => by
    have hf : yes (fun x => x.kind != 1) (.mk kd n v a) () = (kd != 1, ()) := rfl
    simp only [Trm.walk, hf, Trm.pre]
    by_cases h1 : kd = 1
    · subst h1; simp
    · have b : (kd != 1) = true := by simpa using h1
      simp only [b]
      by_cases h3 : kd = 3
      · subst h3
        simp only [if_true]
        rw [walks_ground a]
        simp
      · simp [h1, h3]
theorem walks_ground : ∀ l : List Trm, (Trm.walks (yes fun x => x.kind != 1) l ()).1 = (Trm.pres 1 l).isEmpty
  | [] => rfl
  | t :: l => by
    have h1 := walk_ground t
    have h2 := walks_ground l
    simp only [Trm.walks, Trm.pres]
    rcases hw : Trm.walk (yes fun x => x.kind != 1) t () with ⟨b, u⟩
    rw [hw] at h1
    cases b with
    | false =>
      have : (Trm.pre 1 t).isEmpty = false := h1.symm
      cases hp : Trm.pre 1 t with
      | nil => rw [hp] at this; cases this
      | cons x y => simp
    | true =>
      have : (Trm.pre 1 t).isEmpty = true := h1.symm
      have he : Trm.pre 1 t = [] := by simpa using this
      rw [he]
      simpa using h2
end
end Go.Vs
