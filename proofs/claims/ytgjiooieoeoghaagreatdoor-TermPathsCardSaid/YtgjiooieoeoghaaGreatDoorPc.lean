/-
  Part 3 of a proof by a value semantics: what the call computes, and that the model does what the value semantics says.
  Conditions: none.
-/
import Derived.Test.YtgjiooieoeoghaaGreatDoorPb
set_option linter.unusedSimpArgs false
set_option linter.unusedVariables false
set_option linter.unusedSectionVars false
namespace Go.Vs.C
open Go Go.Vs
set_option maxRecDepth 100000
set_option linter.unusedVariables false
/-- lispprover/lispproverlaw8.TermSubstitutes -/
def F0 (I J : Nat → Nat) : AFunc where
  code := .seq (.reg false [
       { dst := some 2, op := .box (.slot 0) },
       { dst := some 4, op := .mv (.lit (.bool false)) }])
    (.seq (.seq (.reg false [
         { dst := some 5, op := .callP (.lit (.fn (I 8) [])) [] false false },
         { dst := some 6, op := .un .not (.slot 5) }])
      (.cond (.slot 6)
       (.seq (.reg false [
           { dst := some 4, op := .mv (.lit (.bool false)) }])
        (.ret))
       (.skip)))
     (.seq (.seq (.reg false [
          { dst := some 7, op := .loadA 4 (.slot 2) },
          { dst := some 8, op := .callP (.lit (.fn (I 9) [])) [(.slot 7), (.lit (.int .i64 25))] false false },
          { dst := some 9, op := .un .not (.slot 8) },
          { dst := some 10, op := .mv (.slot 9) },
          { dst := some 11, op := .mv (.slot 1), guard := some (10, false) },
          { dst := some 12, op := .callP (.lit (.fn (I 10) [])) [(.slot 11), (.lit (.int .i64 10))] false false, guard := some (10, false) },
          { dst := some 13, op := .un .not (.slot 12), guard := some (10, false) },
          { dst := some 14, op := .pick (.slot 10) (.lit (.bool true)) (.slot 13) }])
       (.cond (.slot 14)
        (.seq (.reg false [
            { dst := some 4, op := .mv (.lit (.bool true)) }])
         (.ret))
        (.skip)))
      (.seq (.reg true [
          { dst := some 15, op := .loadA 4 (.slot 2) },
          { dst := some 16, op := .callP (.lit (.fn (I 11) [])) [(.slot 15)] false false },
          { dst := some 17, op := .mv (.slot 1) },
          { dst := some 18, op := .callP (.lit (.fn (I 12) [])) [(.slot 17)] false false },
          { dst := some 19, op := .callP (.lit (.fn (I 13) [])) [(.slot 16), (.slot 18)] false false },
          { dst := some 20, op := .loadA 4 (.slot 2) },
          { dst := some 21, op := .callP (.lit (.fn (I 11) [])) [(.slot 20)] false false },
          { dst := some 22, op := .mv (.slot 1) },
          { dst := some 23, op := .callP (.lit (.fn (I 12) [])) [(.slot 22)] false false },
          { dst := some 24, op := .callP (.lit (.fn (I 14) [])) [(.slot 21), (.slot 23)] false false },
          { dst := some 25, op := .callP (.lit (.fn (I 15) [])) [(.slot 19), (.slot 24)] false false },
          { dst := some 4, op := .mv (.slot 25) }])
       (.ret))))
  res := [.tmp 4]
  keepOwn := false

def F1_0 (I J : Nat → Nat) : AC :=
  .seq (.seq (.reg false [
        { dst := some 33, op := .mv (.slot 11) },
        { dst := some 34, op := .mv (.slot 8) },
        { dst := some 35, op := .lenL (.slot 34) },
        { dst := some 36, op := .bin .lss (.slot 33) (.slot 35) }])
     (.cond (.slot 36)
      (.skip)
      (.exit 0)))
    (.seq (.block 1 (.reg true [
         { dst := some 39, op := .mv (.take 10) },
         { dst := some 40, op := .mv (.slot 8) },
         { dst := some 41, op := .mv (.slot 11) },
         { dst := some 42, op := .iaddr 13 (.slot 40) (.slot 41) },
         { dst := some 43, op := .faddr 0 (.slot 42) },
         { dst := some 44, op := .loadA 2 (.slot 43) },
         { dst := some 45, op := .mv (.slot 8) },
         { dst := some 46, op := .mv (.slot 11) },
         { dst := some 47, op := .iaddr 13 (.slot 45) (.slot 46) },
         { dst := some 48, op := .faddr 2 (.slot 47) },
         { dst := some 49, op := .loadA 11 (.slot 48) },
         { dst := some 50, op := .mv (.slot 9) },
         { dst := some 51, op := .callP (.lit (.fn (I 13) [])) [(.slot 49), (.slot 50)] false false },
         { dst := some 52, op := .build [.str [], .str [], .int .i64 0, .str [], .str [], .int .i64 0, .str [], .str [], .str [], .str [], .str [], .slice [], .slice []] [(0, 2, (.slot 44)), (2, 11, (.slot 51))] },
         { dst := some 53, op := .lits false 13 [(.slot 52)] },
         { dst := some 54, op := .app false false 13 (.take 39) (.slot 53) },
         { dst := some 10, op := .mv (.take 54) }]))
     (.reg false [
        { dst := some 37, op := .mv (.slot 11) },
        { dst := some 38, op := .bin .add (.slot 37) (.lit (.int .i64 1)) },
        { dst := some 11, op := .mv (.slot 38) }]))
/-- lispprover/lispproverlaw8.TermComposes -/
def F1 (I J : Nat → Nat) : AFunc where
  code := .seq (.reg false [
       { dst := some 3, op := .box (.slot 0) },
       { dst := some 6, op := .mv (.lit (.bool false)) }])
    (.seq (.seq (.reg false [
         { dst := some 12, op := .callP (.lit (.fn (I 8) [])) [] false false },
         { dst := some 13, op := .un .not (.slot 12) }])
      (.cond (.slot 13)
       (.seq (.reg false [
           { dst := some 6, op := .mv (.lit (.bool false)) }])
        (.ret))
       (.skip)))
     (.seq (.seq (.reg false [
          { dst := some 14, op := .loadA 4 (.slot 3) },
          { dst := some 15, op := .callP (.lit (.fn (I 9) [])) [(.slot 14), (.lit (.int .i64 20))] false false },
          { dst := some 16, op := .un .not (.slot 15) },
          { dst := some 17, op := .mv (.slot 16) },
          { dst := some 18, op := .mv (.slot 1), guard := some (17, false) },
          { dst := some 19, op := .callP (.lit (.fn (I 10) [])) [(.slot 18), (.lit (.int .i64 6))] false false, guard := some (17, false) },
          { dst := some 20, op := .un .not (.slot 19), guard := some (17, false) },
          { dst := some 21, op := .pick (.slot 17) (.lit (.bool true)) (.slot 20) },
          { dst := some 22, op := .mv (.slot 21) },
          { dst := some 23, op := .mv (.slot 2), guard := some (22, false) },
          { dst := some 24, op := .callP (.lit (.fn (I 10) [])) [(.slot 23), (.lit (.int .i64 6))] false false, guard := some (22, false) },
          { dst := some 25, op := .un .not (.slot 24), guard := some (22, false) },
          { dst := some 26, op := .pick (.slot 22) (.lit (.bool true)) (.slot 25) }])
       (.cond (.slot 26)
        (.seq (.reg false [
            { dst := some 6, op := .mv (.lit (.bool true)) }])
         (.ret))
        (.skip)))
      (.seq (.reg false [
          { dst := some 27, op := .loadA 4 (.slot 3) },
          { dst := some 28, op := .callP (.lit (.fn (I 11) [])) [(.slot 27)] false false },
          { dst := some 29, op := .mv (.slot 1) },
          { dst := some 30, op := .callP (.lit (.fn (I 12) [])) [(.slot 29)] false false },
          { dst := some 31, op := .mv (.slot 2) },
          { dst := some 32, op := .callP (.lit (.fn (I 12) [])) [(.slot 31)] false false },
          { dst := some 7, op := .alloc [.int .i64 0, .str [], .str [], .int .i64 0, .str [], .str [], .str [], .str [], .str [], .slice [], .slice []] },
          { dst := none, op := .storeA 11 (.slot 7) (.slot 28) },
          { dst := some 8, op := .mv (.slot 30) },
          { dst := some 9, op := .mv (.slot 32) }])
       (.seq (.reg false [
           { dst := some 10, op := .mv (.lit (.onil)) }])
        (.seq (.seq (.reg false [
             { dst := some 11, op := .mv (.lit (.int .i64 0)) }])
          (.block 0 (.loop [7, 8, 9, 10, 11] [3, 7] (F1_0 I J))))
         (.seq (.reg false [
             { dst := some 55, op := .mv (.take 10) },
             { dst := some 56, op := .mv (.slot 9) },
             { dst := some 57, op := .app false false 13 (.take 55) (.slot 56) },
             { dst := some 10, op := .mv (.take 57) }])
          (.seq (.reg true [
              { dst := some 58, op := .loadA 11 (.slot 7) },
              { dst := some 59, op := .mv (.slot 8) },
              { dst := some 60, op := .callP (.lit (.fn (I 13) [])) [(.slot 58), (.slot 59)] false false },
              { dst := some 61, op := .mv (.slot 9) },
              { dst := some 62, op := .callP (.lit (.fn (I 13) [])) [(.slot 60), (.slot 61)] false false },
              { dst := some 63, op := .loadA 11 (.slot 7) },
              { dst := some 64, op := .mv (.slot 10) },
              { dst := some 65, op := .callP (.lit (.fn (I 13) [])) [(.slot 63), (.slot 64)] false false },
              { dst := some 66, op := .callP (.lit (.fn (I 16) [])) [(.slot 62), (.slot 65)] false false },
              { dst := some 6, op := .mv (.slot 66) }])
           (.ret))))))))
  res := [.tmp 6]
  keepOwn := false

def F2_0 (I J : Nat → Nat) : AC :=
  .seq (.seq (.reg false [
        { dst := some 11, op := .mv (.slot 4) },
        { dst := some 12, op := .mv (.slot 0) },
        { dst := some 13, op := .lenL (.slot 12) },
        { dst := some 14, op := .bin .lss (.slot 11) (.slot 13) }])
     (.cond (.slot 14)
      (.skip)
      (.exit 0)))
    (.seq (.block 1 (.reg false [
         { dst := some 17, op := .mv (.take 3) },
         { dst := some 18, op := .mv (.slot 0) },
         { dst := some 19, op := .mv (.slot 4) },
         { dst := some 20, op := .iaddr 4 (.slot 18) (.slot 19) },
         { dst := some 21, op := .loadA 4 (.slot 20) },
         { dst := some 22, op := .callP (.lit (.fn (I 11) [])) [(.slot 21)] false false },
         { dst := some 23, op := .lits false 11 [(.slot 22)] },
         { dst := some 24, op := .app false false 11 (.take 17) (.slot 23) },
         { dst := some 3, op := .mv (.take 24) }]))
     (.reg false [
        { dst := some 15, op := .mv (.slot 4) },
        { dst := some 16, op := .bin .add (.slot 15) (.lit (.int .i64 1)) },
        { dst := some 4, op := .mv (.slot 16) }]))
def F2_1 (I J : Nat → Nat) : AC :=
  .seq (.seq (.reg false [
        { dst := some 25, op := .mv (.slot 5) },
        { dst := some 26, op := .mv (.slot 3) },
        { dst := some 27, op := .lenL (.slot 26) },
        { dst := some 28, op := .bin .lss (.slot 25) (.slot 27) }])
     (.cond (.slot 28)
      (.skip)
      (.exit 2)))
    (.seq (.block 3 (.seq (.reg true [
          { dst := some 31, op := .mv (.slot 3) },
          { dst := some 32, op := .mv (.slot 5) },
          { dst := some 33, op := .iaddr 11 (.slot 31) (.slot 32) },
          { dst := some 34, op := .loadA 11 (.slot 33) },
          { dst := some 35, op := .callP (.lit (.fn (I 17) [])) [(.slot 34)] false false },
          { dst := some 36, op := .mv (.slot 3) },
          { dst := some 37, op := .mv (.slot 5) },
          { dst := some 38, op := .iaddr 11 (.slot 36) (.slot 37) },
          { dst := some 39, op := .loadA 11 (.slot 38) },
          { dst := some 40, op := .callP (.lit (.fn (I 18) [])) [(.slot 39)] false false },
          { dst := some 41, op := .eqb true (.slot 35) (.slot 40) }])
       (.cond (.slot 41)
        (.seq (.reg false [
            { dst := some 2, op := .mv (.lit (.bool false)) }])
         (.ret))
        (.skip))))
     (.reg false [
        { dst := some 29, op := .mv (.slot 5) },
        { dst := some 30, op := .bin .add (.slot 29) (.lit (.int .i64 1)) },
        { dst := some 5, op := .mv (.slot 30) }]))
/-- lispprover/lispproverlaw8.TermLists -/
def F2 (I J : Nat → Nat) : AFunc where
  code := .seq (.reg false [
       { dst := some 2, op := .mv (.lit (.bool false)) }])
    (.seq (.seq (.reg false [
         { dst := some 6, op := .callP (.lit (.fn (I 8) [])) [] false false },
         { dst := some 7, op := .un .not (.slot 6) }])
      (.cond (.slot 7)
       (.seq (.reg false [
           { dst := some 2, op := .mv (.lit (.bool false)) }])
        (.ret))
       (.skip)))
     (.seq (.seq (.reg false [
          { dst := some 8, op := .mv (.slot 0) },
          { dst := some 9, op := .callP (.lit (.fn (I 10) [])) [(.slot 8), (.lit (.int .i64 25))] false false },
          { dst := some 10, op := .un .not (.slot 9) }])
       (.cond (.slot 10)
        (.seq (.reg false [
            { dst := some 2, op := .mv (.lit (.bool true)) }])
         (.ret))
        (.skip)))
      (.seq (.reg false [
          { dst := some 3, op := .mv (.lit (.onil)) }])
       (.seq (.seq (.reg false [
            { dst := some 4, op := .mv (.lit (.int .i64 0)) }])
         (.block 0 (.loop [0, 3, 4] [] (F2_0 I J))))
        (.seq (.seq (.reg false [
             { dst := some 5, op := .mv (.lit (.int .i64 0)) }])
          (.block 2 (.loop [3, 5] [] (F2_1 I J))))
         (.seq (.reg false [
             { dst := some 42, op := .mv (.slot 3) },
             { dst := some 43, op := .callP (.lit (.fn (I 19) [])) [(.slot 42)] false false },
             { dst := some 44, op := .mv (.slot 3) },
             { dst := some 45, op := .callP (.lit (.fn (I 20) [])) [(.slot 44)] false false },
             { dst := some 46, op := .callP (.lit (.fn (I 21) [])) [(.slot 43), (.slot 45)] false false },
             { dst := some 47, op := .mv (.slot 46) },
             { dst := some 48, op := .mv (.slot 3), guard := some (47, true) },
             { dst := some 49, op := .callP (.lit (.fn (I 22) [])) [(.slot 48)] false false, guard := some (47, true) },
             { dst := some 50, op := .mv (.slot 3), guard := some (47, true) },
             { dst := some 51, op := .callP (.lit (.fn (I 23) [])) [(.slot 50)] false false, guard := some (47, true) },
             { dst := some 52, op := .callP (.lit (.fn (I 21) [])) [(.slot 49), (.slot 51)] false false, guard := some (47, true) },
             { dst := some 53, op := .pick (.slot 47) (.slot 52) (.lit (.bool false)) },
             { dst := some 2, op := .mv (.slot 53) }])
          (.ret)))))))
  res := [.tmp 2]
  keepOwn := false

def F3_0 (I J : Nat → Nat) : AC :=
  .seq (.seq (.reg false [
        { dst := some 22, op := .mv (.slot 10) },
        { dst := some 23, op := .mv (.slot 2) },
        { dst := some 24, op := .lenL (.slot 23) },
        { dst := some 25, op := .bin .lss (.slot 22) (.slot 24) }])
     (.cond (.slot 25)
      (.skip)
      (.exit 0)))
    (.seq (.block 1 (.reg false [
         { dst := some 28, op := .mv (.take 9) },
         { dst := some 29, op := .mv (.slot 2) },
         { dst := some 30, op := .mv (.slot 10) },
         { dst := some 31, op := .iaddr 4 (.slot 29) (.slot 30) },
         { dst := some 32, op := .loadA 4 (.slot 31) },
         { dst := some 33, op := .callP (.lit (.fn (I 11) [])) [(.slot 32)] false false },
         { dst := some 34, op := .lits false 11 [(.slot 33)] },
         { dst := some 35, op := .app false false 11 (.take 28) (.slot 34) },
         { dst := some 9, op := .mv (.take 35) }]))
     (.reg false [
        { dst := some 26, op := .mv (.slot 10) },
        { dst := some 27, op := .bin .add (.slot 26) (.lit (.int .i64 1)) },
        { dst := some 10, op := .mv (.slot 27) }]))
/-- lispprover/lispproverlaw8.TermMade -/
def F3 (I J : Nat → Nat) : AFunc where
  code := .seq (.reg false [
       { dst := some 4, op := .box (.slot 0) },
       { dst := some 7, op := .box (.slot 3) },
       { dst := some 8, op := .mv (.lit (.bool false)) }])
    (.seq (.seq (.reg false [
         { dst := some 12, op := .callP (.lit (.fn (I 8) [])) [] false false },
         { dst := some 13, op := .un .not (.slot 12) }])
      (.cond (.slot 13)
       (.seq (.reg false [
           { dst := some 8, op := .mv (.lit (.bool false)) }])
        (.ret))
       (.skip)))
     (.seq (.seq (.reg false [
          { dst := some 14, op := .mv (.slot 2) },
          { dst := some 15, op := .callP (.lit (.fn (I 10) [])) [(.slot 14), (.lit (.int .i64 10))] false false },
          { dst := some 16, op := .un .not (.slot 15) },
          { dst := some 17, op := .mv (.slot 16) },
          { dst := some 18, op := .loadA 4 (.slot 7), guard := some (17, false) },
          { dst := some 19, op := .callP (.lit (.fn (I 9) [])) [(.slot 18), (.lit (.int .i64 20))] false false, guard := some (17, false) },
          { dst := some 20, op := .un .not (.slot 19), guard := some (17, false) },
          { dst := some 21, op := .pick (.slot 17) (.lit (.bool true)) (.slot 20) }])
       (.cond (.slot 21)
        (.seq (.reg false [
            { dst := some 8, op := .mv (.lit (.bool true)) }])
         (.ret))
        (.skip)))
      (.seq (.reg false [
          { dst := some 9, op := .mv (.lit (.onil)) }])
       (.seq (.seq (.reg false [
            { dst := some 10, op := .mv (.lit (.int .i64 0)) }])
         (.block 0 (.loop [1, 2, 4, 7, 9, 10] [4, 7, 11] (F3_0 I J))))
        (.seq (.reg false [
            { dst := some 36, op := .loadA 4 (.slot 7) },
            { dst := some 37, op := .callP (.lit (.fn (I 24) [])) [(.slot 36)] false false },
            { dst := some 11, op := .alloc [.int .i64 0, .str [], .str [], .str [], .str [], .str [], .slice []] },
            { dst := none, op := .storeA 7 (.slot 11) (.slot 37) }])
         (.seq (.reg true [
             { dst := some 38, op := .loadA 2 (.slot 4) },
             { dst := some 39, op := .callP (.lit (.fn (I 25) [])) [(.slot 38)] false false },
             { dst := some 40, op := .loadA 2 (.slot 4) },
             { dst := some 41, op := .callP (.lit (.fn (I 26) [])) [(.slot 40)] false false },
             { dst := some 42, op := .callP (.lit (.fn (I 15) [])) [(.slot 39), (.slot 41)] false false },
             { dst := some 43, op := .mv (.slot 42) },
             { dst := some 44, op := .loadA 7 (.slot 11), guard := some (43, true) },
             { dst := some 45, op := .callP (.lit (.fn (I 27) [])) [(.slot 44)] false false, guard := some (43, true) },
             { dst := some 46, op := .loadA 7 (.slot 11), guard := some (43, true) },
             { dst := some 47, op := .callP (.lit (.fn (I 28) [])) [(.slot 46)] false false, guard := some (43, true) },
             { dst := some 48, op := .callP (.lit (.fn (I 15) [])) [(.slot 45), (.slot 47)] false false, guard := some (43, true) },
             { dst := some 49, op := .pick (.slot 43) (.slot 48) (.lit (.bool false)) },
             { dst := some 50, op := .mv (.slot 49) },
             { dst := some 51, op := .loadA 2 (.slot 4), guard := some (50, true) },
             { dst := some 52, op := .mv (.slot 9), guard := some (50, true) },
             { dst := some 53, op := .callP (.lit (.fn (I 29) [])) [(.slot 51), (.slot 52)] false false, guard := some (50, true) },
             { dst := some 54, op := .loadA 2 (.slot 4), guard := some (50, true) },
             { dst := some 55, op := .mv (.slot 9), guard := some (50, true) },
             { dst := some 56, op := .callP (.lit (.fn (I 30) [])) [(.slot 54), (.slot 55)] false false, guard := some (50, true) },
             { dst := some 57, op := .callP (.lit (.fn (I 15) [])) [(.slot 53), (.slot 56)] false false, guard := some (50, true) },
             { dst := some 58, op := .pick (.slot 50) (.slot 57) (.lit (.bool false)) },
             { dst := some 59, op := .mv (.slot 58) },
             { dst := some 60, op := .mv (.slot 1), guard := some (59, true) },
             { dst := some 61, op := .mv (.slot 9), guard := some (59, true) },
             { dst := some 62, op := .callP (.lit (.fn (I 31) [])) [(.slot 60), (.slot 61)] false false, guard := some (59, true) },
             { dst := some 63, op := .mv (.slot 1), guard := some (59, true) },
             { dst := some 64, op := .mv (.slot 9), guard := some (59, true) },
             { dst := some 65, op := .callP (.lit (.fn (I 32) [])) [(.slot 63), (.slot 64)] false false, guard := some (59, true) },
             { dst := some 66, op := .callP (.lit (.fn (I 15) [])) [(.slot 62), (.slot 65)] false false, guard := some (59, true) },
             { dst := some 67, op := .pick (.slot 59) (.slot 66) (.lit (.bool false)) },
             { dst := some 8, op := .mv (.slot 67) }])
          (.ret)))))))
  res := [.tmp 8]
  keepOwn := false

/-- lispprover/lispproverlaw8.TermReplaces -/
def F4 (I J : Nat → Nat) : AFunc where
  code := .seq (.reg false [
       { dst := some 3, op := .box (.slot 0) },
       { dst := some 4, op := .box (.slot 1) },
       { dst := some 5, op := .box (.slot 2) },
       { dst := some 6, op := .mv (.lit (.bool false)) }])
    (.seq (.seq (.reg false [
         { dst := some 11, op := .callP (.lit (.fn (I 8) [])) [] false false },
         { dst := some 12, op := .un .not (.slot 11) }])
      (.cond (.slot 12)
       (.seq (.reg false [
           { dst := some 6, op := .mv (.lit (.bool false)) }])
        (.ret))
       (.skip)))
     (.seq (.seq (.reg false [
          { dst := some 13, op := .loadA 4 (.slot 3) },
          { dst := some 14, op := .callP (.lit (.fn (I 9) [])) [(.slot 13), (.lit (.int .i64 30))] false false },
          { dst := some 15, op := .un .not (.slot 14) },
          { dst := some 16, op := .mv (.slot 15) },
          { dst := some 17, op := .loadA 4 (.slot 4), guard := some (16, false) },
          { dst := some 18, op := .callP (.lit (.fn (I 9) [])) [(.slot 17), (.lit (.int .i64 6))] false false, guard := some (16, false) },
          { dst := some 19, op := .un .not (.slot 18), guard := some (16, false) },
          { dst := some 20, op := .pick (.slot 16) (.lit (.bool true)) (.slot 19) },
          { dst := some 21, op := .mv (.slot 20) },
          { dst := some 22, op := .loadA 4 (.slot 5), guard := some (21, false) },
          { dst := some 23, op := .callP (.lit (.fn (I 9) [])) [(.slot 22), (.lit (.int .i64 6))] false false, guard := some (21, false) },
          { dst := some 24, op := .un .not (.slot 23), guard := some (21, false) },
          { dst := some 25, op := .pick (.slot 21) (.lit (.bool true)) (.slot 24) }])
       (.cond (.slot 25)
        (.seq (.reg false [
            { dst := some 6, op := .mv (.lit (.bool true)) }])
         (.ret))
        (.skip)))
      (.seq (.reg true [
          { dst := some 26, op := .loadA 4 (.slot 3) },
          { dst := some 27, op := .callP (.lit (.fn (I 11) [])) [(.slot 26)] false false },
          { dst := some 28, op := .loadA 4 (.slot 4) },
          { dst := some 29, op := .callP (.lit (.fn (I 11) [])) [(.slot 28)] false false },
          { dst := some 30, op := .loadA 4 (.slot 5) },
          { dst := some 31, op := .callP (.lit (.fn (I 11) [])) [(.slot 30)] false false },
          { dst := some 7, op := .alloc [.int .i64 0, .str [], .str [], .int .i64 0, .str [], .str [], .str [], .str [], .str [], .slice [], .slice []] },
          { dst := some 8, op := .alloc [.int .i64 0, .str [], .str [], .int .i64 0, .str [], .str [], .str [], .str [], .str [], .slice [], .slice []] },
          { dst := some 9, op := .alloc [.int .i64 0, .str [], .str [], .int .i64 0, .str [], .str [], .str [], .str [], .str [], .slice [], .slice []] },
          { dst := none, op := .storeAN 11 (.slot 7) (.slot 27) },
          { dst := none, op := .storeAN 11 (.slot 8) (.slot 29) },
          { dst := none, op := .storeAN 11 (.slot 9) (.slot 31) }])
       (.seq (.reg false [
           { dst := some 32, op := .loadA 11 (.slot 7) },
           { dst := some 33, op := .loadA 11 (.slot 8) },
           { dst := some 34, op := .loadA 11 (.slot 9) },
           { dst := some 35, op := .callP (.lit (.fn (I 33) [])) [(.slot 32), (.slot 33), (.slot 34)] false false },
           { dst := some 10, op := .alloc [.int .i64 0, .str [], .str [], .int .i64 0, .str [], .str [], .str [], .str [], .str [], .slice [], .slice []] },
           { dst := none, op := .storeA 11 (.slot 10) (.slot 35) }])
        (.seq (.seq (.reg true [
             { dst := some 36, op := .loadA 11 (.slot 8) },
             { dst := some 37, op := .loadA 11 (.slot 7) },
             { dst := some 38, op := .callP (.lit (.fn (I 34) [])) [(.slot 36), (.slot 37)] false false },
             { dst := some 39, op := .loadA 11 (.slot 8) },
             { dst := some 40, op := .loadA 11 (.slot 7) },
             { dst := some 41, op := .callP (.lit (.fn (I 35) [])) [(.slot 39), (.slot 40)] false false },
             { dst := some 42, op := .eqb true (.slot 38) (.slot 41) },
             { dst := some 43, op := .mv (.slot 42) },
             { dst := some 44, op := .loadA 11 (.slot 10), guard := some (43, false) },
             { dst := some 45, op := .loadA 11 (.slot 7), guard := some (43, false) },
             { dst := some 46, op := .loadA 11 (.slot 8), guard := some (43, false) },
             { dst := some 47, op := .loadA 11 (.slot 9), guard := some (43, false) },
             { dst := some 48, op := .callP (.lit (.fn (I 36) [])) [(.slot 45), (.slot 46), (.slot 47)] false false, guard := some (43, false) },
             { dst := some 49, op := .callP (.lit (.fn (I 15) [])) [(.slot 44), (.slot 48)] false false, guard := some (43, false) },
             { dst := some 50, op := .un .not (.slot 49), guard := some (43, false) },
             { dst := some 51, op := .pick (.slot 43) (.lit (.bool true)) (.slot 50) }])
          (.cond (.slot 51)
           (.seq (.reg false [
               { dst := some 6, op := .mv (.lit (.bool false)) }])
            (.ret))
           (.skip)))
         (.seq (.reg false [
             { dst := some 52, op := .loadA 11 (.slot 8) },
             { dst := some 53, op := .loadA 11 (.slot 7) },
             { dst := some 54, op := .callP (.lit (.fn (I 35) [])) [(.slot 52), (.slot 53)] false false },
             { dst := some 55, op := .mv (.slot 54) },
             { dst := some 56, op := .loadA 11 (.slot 10), guard := some (55, false) },
             { dst := some 57, op := .loadA 11 (.slot 7), guard := some (55, false) },
             { dst := some 58, op := .callP (.lit (.fn (I 15) [])) [(.slot 56), (.slot 57)] false false, guard := some (55, false) },
             { dst := some 59, op := .pick (.slot 55) (.lit (.bool true)) (.slot 58) },
             { dst := some 6, op := .mv (.slot 59) }])
          (.ret)))))))
  res := [.tmp 6]
  keepOwn := false

def F5_0 (I J : Nat → Nat) : AC :=
  .seq (.seq (.reg false [
        { dst := some 47, op := .mv (.slot 10) },
        { dst := some 48, op := .mv (.slot 2) },
        { dst := some 49, op := .lenL (.slot 48) },
        { dst := some 50, op := .bin .lss (.slot 47) (.slot 49) }])
     (.cond (.slot 50)
      (.skip)
      (.exit 0)))
    (.seq (.block 1 (.seq (.reg false [
          { dst := some 53, op := .mv (.slot 9) },
          { dst := some 54, op := .mv (.slot 10) },
          { dst := some 55, op := .mv (.slot 2) },
          { dst := some 56, op := .mv (.slot 10) },
          { dst := some 57, op := .iaddr 1 (.slot 55) (.slot 56) },
          { dst := some 58, op := .load1 (.slot 57) },
          { dst := some 59, op := .callP (.lit (.fn (I 37) [])) [(.slot 58), (.lit (.int .i64 4))] false false },
          { dst := some 60, op := .bin .sub (.slot 59) (.lit (.int .i64 1)) },
          { dst := some 61, op := .iaddr 1 (.slot 53) (.slot 54) },
          { dst := none, op := .store1 (.slot 61) (.slot 60) }])
       (.seq (.reg false [
           { dst := some 62, op := .mv (.slot 9) },
           { dst := some 63, op := .mv (.slot 10) },
           { dst := some 64, op := .iaddr 1 (.slot 62) (.slot 63) },
           { dst := some 65, op := .load1 (.slot 64) },
           { dst := some 66, op := .bin .lss (.slot 65) (.lit (.int .i64 0)) }])
        (.cond (.slot 66)
         (.reg false [
            { dst := some 67, op := .mv (.slot 9) },
            { dst := some 68, op := .mv (.slot 10) },
            { dst := some 69, op := .iaddr 1 (.slot 67) (.slot 68) },
            { dst := none, op := .store1 (.slot 69) (.lit (.int .i64 0)) }])
         (.skip)))))
     (.reg false [
        { dst := some 51, op := .mv (.slot 10) },
        { dst := some 52, op := .bin .add (.slot 51) (.lit (.int .i64 1)) },
        { dst := some 10, op := .mv (.slot 52) }]))
/-- lispprover/lispproverlaw8.TermPaths -/
def F5 (I J : Nat → Nat) : AFunc where
  code := .seq (.reg false [
       { dst := some 3, op := .box (.slot 0) },
       { dst := some 4, op := .box (.slot 1) },
       { dst := some 6, op := .mv (.lit (.bool false)) }])
    (.seq (.seq (.reg false [
         { dst := some 25, op := .callP (.lit (.fn (I 8) [])) [] false false },
         { dst := some 26, op := .un .not (.slot 25) }])
      (.cond (.slot 26)
       (.seq (.reg false [
           { dst := some 6, op := .mv (.lit (.bool false)) }])
        (.ret))
       (.skip)))
     (.seq (.seq (.reg false [
          { dst := some 27, op := .loadA 4 (.slot 3) },
          { dst := some 28, op := .callP (.lit (.fn (I 9) [])) [(.slot 27), (.lit (.int .i64 30))] false false },
          { dst := some 29, op := .un .not (.slot 28) },
          { dst := some 30, op := .mv (.slot 29) },
          { dst := some 31, op := .loadA 4 (.slot 4), guard := some (30, false) },
          { dst := some 32, op := .callP (.lit (.fn (I 9) [])) [(.slot 31), (.lit (.int .i64 10))] false false, guard := some (30, false) },
          { dst := some 33, op := .un .not (.slot 32), guard := some (30, false) },
          { dst := some 34, op := .pick (.slot 30) (.lit (.bool true)) (.slot 33) },
          { dst := some 35, op := .mv (.slot 34) },
          { dst := some 36, op := .mv (.slot 2), guard := some (35, false) },
          { dst := some 37, op := .lenL (.slot 36), guard := some (35, false) },
          { dst := some 38, op := .bin .gtr (.slot 37) (.lit (.int .i64 6)), guard := some (35, false) },
          { dst := some 39, op := .pick (.slot 35) (.lit (.bool true)) (.slot 38) }])
       (.cond (.slot 39)
        (.seq (.reg false [
            { dst := some 6, op := .mv (.lit (.bool true)) }])
         (.ret))
        (.skip)))
      (.seq (.reg true [
          { dst := some 40, op := .loadA 4 (.slot 3) },
          { dst := some 41, op := .callP (.lit (.fn (I 11) [])) [(.slot 40)] false false },
          { dst := some 42, op := .loadA 4 (.slot 4) },
          { dst := some 43, op := .callP (.lit (.fn (I 11) [])) [(.slot 42)] false false },
          { dst := some 7, op := .alloc [.int .i64 0, .str [], .str [], .int .i64 0, .str [], .str [], .str [], .str [], .str [], .slice [], .slice []] },
          { dst := some 8, op := .alloc [.int .i64 0, .str [], .str [], .int .i64 0, .str [], .str [], .str [], .str [], .str [], .slice [], .slice []] },
          { dst := none, op := .storeAN 11 (.slot 7) (.slot 41) },
          { dst := none, op := .storeAN 11 (.slot 8) (.slot 43) }])
       (.seq (.reg false [
           { dst := some 44, op := .mv (.slot 2) },
           { dst := some 45, op := .lenL (.slot 44) },
           { dst := some 46, op := .mks true false 1 (.int .i64 0) (.slot 45) (.slot 45) },
           { dst := some 9, op := .mv (.slot 46) }])
        (.seq (.seq (.reg false [
             { dst := some 10, op := .mv (.lit (.int .i64 0)) }])
          (.block 0 (.loop [2, 7, 8, 9, 10] [3, 4, 7, 8, 9, 11, 13, 15, 17, 19, 21, 23, 46] (F5_0 I J))))
         (.seq (.reg false [
             { dst := some 71, op := .loadA 11 (.slot 7) },
             { dst := some 72, op := .frz 46 (.slot 9) },
             { dst := some 73, op := .callP (.lit (.fn (I 38) [])) [(.slot 71), (.slot 72)] false false },
             { dst := some 70, op := .mv (.take 73) },
             { dst := some 74, op := .extr 70 0 },
             { dst := some 75, op := .extr 70 1 },
             { dst := some 11, op := .alloc [.int .i64 0, .str [], .str [], .int .i64 0, .str [], .str [], .str [], .str [], .str [], .slice [], .slice []] },
             { dst := none, op := .storeA 11 (.slot 11) (.slot 74) },
             { dst := some 12, op := .mv (.slot 75) }])
          (.seq (.reg false [
              { dst := some 77, op := .loadA 11 (.slot 7) },
              { dst := some 78, op := .frz 46 (.slot 9) },
              { dst := some 79, op := .callP (.lit (.fn (I 39) [])) [(.slot 77), (.slot 78)] false false },
              { dst := some 76, op := .mv (.take 79) },
              { dst := some 80, op := .extr 76 0 },
              { dst := some 81, op := .extr 76 1 },
              { dst := some 13, op := .alloc [.int .i64 0, .str [], .str [], .int .i64 0, .str [], .str [], .str [], .str [], .str [], .slice [], .slice []] },
              { dst := none, op := .storeA 11 (.slot 13) (.slot 80) },
              { dst := some 14, op := .mv (.slot 81) }])
           (.seq (.reg false [
               { dst := some 83, op := .loadA 11 (.slot 7) },
               { dst := some 84, op := .frz 46 (.slot 9) },
               { dst := some 85, op := .loadA 11 (.slot 8) },
               { dst := some 86, op := .callP (.lit (.fn (I 40) [])) [(.slot 83), (.slot 84), (.slot 85)] false false },
               { dst := some 82, op := .mv (.take 86) },
               { dst := some 87, op := .extr 82 0 },
               { dst := some 88, op := .extr 82 1 },
               { dst := some 15, op := .alloc [.int .i64 0, .str [], .str [], .int .i64 0, .str [], .str [], .str [], .str [], .str [], .slice [], .slice []] },
               { dst := none, op := .storeA 11 (.slot 15) (.slot 87) },
               { dst := some 16, op := .mv (.slot 88) }])
            (.seq (.reg false [
                { dst := some 90, op := .loadA 11 (.slot 7) },
                { dst := some 91, op := .frz 46 (.slot 9) },
                { dst := some 92, op := .loadA 11 (.slot 8) },
                { dst := some 93, op := .callP (.lit (.fn (I 41) [])) [(.slot 90), (.slot 91), (.slot 92)] false false },
                { dst := some 89, op := .mv (.take 93) },
                { dst := some 94, op := .extr 89 0 },
                { dst := some 95, op := .extr 89 1 },
                { dst := some 17, op := .alloc [.int .i64 0, .str [], .str [], .int .i64 0, .str [], .str [], .str [], .str [], .str [], .slice [], .slice []] },
                { dst := none, op := .storeA 11 (.slot 17) (.slot 94) },
                { dst := some 18, op := .mv (.slot 95) }])
             (.seq (.seq (.reg false [
                  { dst := some 96, op := .mv (.slot 12) },
                  { dst := some 97, op := .mv (.slot 14) },
                  { dst := some 98, op := .eqb true (.slot 96) (.slot 97) },
                  { dst := some 99, op := .mv (.slot 98) },
                  { dst := some 100, op := .mv (.slot 16), guard := some (99, false) },
                  { dst := some 101, op := .mv (.slot 18), guard := some (99, false) },
                  { dst := some 102, op := .eqb true (.slot 100) (.slot 101), guard := some (99, false) },
                  { dst := some 103, op := .pick (.slot 99) (.lit (.bool true)) (.slot 102) },
                  { dst := some 104, op := .mv (.slot 103) },
                  { dst := some 105, op := .loadA 11 (.slot 11), guard := some (104, false) },
                  { dst := some 106, op := .loadA 11 (.slot 13), guard := some (104, false) },
                  { dst := some 107, op := .callP (.lit (.fn (I 15) [])) [(.slot 105), (.slot 106)] false false, guard := some (104, false) },
                  { dst := some 108, op := .un .not (.slot 107), guard := some (104, false) },
                  { dst := some 109, op := .pick (.slot 104) (.lit (.bool true)) (.slot 108) },
                  { dst := some 110, op := .mv (.slot 109) },
                  { dst := some 111, op := .loadA 11 (.slot 15), guard := some (110, false) },
                  { dst := some 112, op := .loadA 11 (.slot 17), guard := some (110, false) },
                  { dst := some 113, op := .callP (.lit (.fn (I 15) [])) [(.slot 111), (.slot 112)] false false, guard := some (110, false) },
                  { dst := some 114, op := .un .not (.slot 113), guard := some (110, false) },
                  { dst := some 115, op := .pick (.slot 110) (.lit (.bool true)) (.slot 114) }])
               (.cond (.slot 115)
                (.seq (.reg false [
                    { dst := some 6, op := .mv (.lit (.bool false)) }])
                 (.ret))
                (.skip)))
              (.seq (.reg false [
                  { dst := some 117, op := .loadA 11 (.slot 7) },
                  { dst := some 118, op := .mv (.slot 2) },
                  { dst := some 119, op := .callP (.lit (.fn (I 38) [])) [(.slot 117), (.slot 118)] false false },
                  { dst := some 116, op := .mv (.take 119) },
                  { dst := some 120, op := .extr 116 0 },
                  { dst := some 121, op := .extr 116 1 },
                  { dst := some 19, op := .alloc [.int .i64 0, .str [], .str [], .int .i64 0, .str [], .str [], .str [], .str [], .str [], .slice [], .slice []] },
                  { dst := none, op := .storeA 11 (.slot 19) (.slot 120) },
                  { dst := some 20, op := .mv (.slot 121) }])
               (.seq (.reg false [
                   { dst := some 123, op := .loadA 11 (.slot 7) },
                   { dst := some 124, op := .mv (.slot 2) },
                   { dst := some 125, op := .callP (.lit (.fn (I 39) [])) [(.slot 123), (.slot 124)] false false },
                   { dst := some 122, op := .mv (.take 125) },
                   { dst := some 126, op := .extr 122 0 },
                   { dst := some 127, op := .extr 122 1 },
                   { dst := some 21, op := .alloc [.int .i64 0, .str [], .str [], .int .i64 0, .str [], .str [], .str [], .str [], .str [], .slice [], .slice []] },
                   { dst := none, op := .storeA 11 (.slot 21) (.slot 126) },
                   { dst := some 22, op := .mv (.slot 127) }])
                (.seq (.reg false [
                    { dst := some 129, op := .loadA 11 (.slot 15) },
                    { dst := some 130, op := .frz 46 (.slot 9) },
                    { dst := some 131, op := .callP (.lit (.fn (I 38) [])) [(.slot 129), (.slot 130)] false false },
                    { dst := some 128, op := .mv (.take 131) },
                    { dst := some 132, op := .extr 128 0 },
                    { dst := some 133, op := .extr 128 1 },
                    { dst := some 23, op := .alloc [.int .i64 0, .str [], .str [], .int .i64 0, .str [], .str [], .str [], .str [], .str [], .slice [], .slice []] },
                    { dst := none, op := .storeA 11 (.slot 23) (.slot 132) },
                    { dst := some 24, op := .mv (.slot 133) }])
                 (.seq (.reg false [
                     { dst := some 134, op := .mv (.slot 20) },
                     { dst := some 135, op := .mv (.slot 22) },
                     { dst := some 136, op := .eqb false (.slot 134) (.slot 135) },
                     { dst := some 137, op := .mv (.slot 136) },
                     { dst := some 138, op := .mv (.slot 16), guard := some (137, true) },
                     { dst := some 139, op := .un .not (.slot 138), guard := some (137, true) },
                     { dst := some 140, op := .mv (.slot 139), guard := some (137, true) },
                     { dst := some 141, op := .mv (.slot 24), guard := some (140, false) },
                     { dst := some 142, op := .mv (.slot 141), guard := some (140, false) },
                     { dst := some 143, op := .loadA 11 (.slot 23), guard := some (142, true) },
                     { dst := some 144, op := .loadA 11 (.slot 8), guard := some (142, true) },
                     { dst := some 145, op := .callP (.lit (.fn (I 15) [])) [(.slot 143), (.slot 144)] false false, guard := some (142, true) },
                     { dst := some 146, op := .pick (.slot 142) (.slot 145) (.lit (.bool false)), guard := some (140, false) },
                     { dst := some 147, op := .pick (.slot 140) (.lit (.bool true)) (.slot 146), guard := some (137, true) },
                     { dst := some 148, op := .pick (.slot 137) (.slot 147) (.lit (.bool false)) },
                     { dst := some 6, op := .mv (.slot 148) }])
                  (.ret)))))))))))))))
  res := [.tmp 6]
  keepOwn := false

/-- lispprover/lispproverlaw8.TermUnquotes -/
def F6 (I J : Nat → Nat) : AFunc where
  code := .seq (.reg false [
       { dst := some 1, op := .box (.slot 0) },
       { dst := some 2, op := .mv (.lit (.bool false)) }])
    (.seq (.seq (.reg false [
         { dst := some 8, op := .callP (.lit (.fn (I 8) [])) [] false false },
         { dst := some 9, op := .un .not (.slot 8) }])
      (.cond (.slot 9)
       (.seq (.reg false [
           { dst := some 2, op := .mv (.lit (.bool false)) }])
        (.ret))
       (.skip)))
     (.seq (.seq (.reg false [
          { dst := some 10, op := .loadA 4 (.slot 1) },
          { dst := some 11, op := .callP (.lit (.fn (I 9) [])) [(.slot 10), (.lit (.int .i64 30))] false false },
          { dst := some 12, op := .un .not (.slot 11) }])
       (.cond (.slot 12)
        (.seq (.reg false [
            { dst := some 2, op := .mv (.lit (.bool true)) }])
         (.ret))
        (.skip)))
      (.seq (.reg false [
          { dst := some 13, op := .loadA 4 (.slot 1) },
          { dst := some 14, op := .callP (.lit (.fn (I 24) [])) [(.slot 13)] false false },
          { dst := some 3, op := .alloc [.int .i64 0, .str [], .str [], .str [], .str [], .str [], .slice []] },
          { dst := none, op := .storeA 7 (.slot 3) (.slot 14) }])
       (.seq (.reg false [
           { dst := some 16, op := .loadA 7 (.slot 3) },
           { dst := some 17, op := .callP (.lit (.fn (I 42) [])) [(.slot 16)] false false },
           { dst := some 15, op := .mv (.take 17) },
           { dst := some 18, op := .extr 15 0 },
           { dst := some 19, op := .extr 15 1 },
           { dst := some 4, op := .alloc [.int .i64 0, .str [], .str [], .int .i64 0, .str [], .str [], .str [], .str [], .str [], .slice [], .slice []] },
           { dst := none, op := .storeA 11 (.slot 4) (.slot 18) },
           { dst := some 5, op := .mv (.slot 19) }])
        (.seq (.reg false [
            { dst := some 21, op := .loadA 7 (.slot 3) },
            { dst := some 22, op := .callP (.lit (.fn (I 43) [])) [(.slot 21)] false false },
            { dst := some 20, op := .mv (.take 22) },
            { dst := some 23, op := .extr 20 0 },
            { dst := some 24, op := .extr 20 1 },
            { dst := some 6, op := .alloc [.int .i64 0, .str [], .str [], .int .i64 0, .str [], .str [], .str [], .str [], .str [], .slice [], .slice []] },
            { dst := none, op := .storeA 11 (.slot 6) (.slot 23) },
            { dst := some 7, op := .mv (.slot 24) }])
         (.seq (.reg false [
             { dst := some 25, op := .mv (.slot 5) },
             { dst := some 26, op := .mv (.slot 7) },
             { dst := some 27, op := .eqb false (.slot 25) (.slot 26) },
             { dst := some 28, op := .mv (.slot 27) },
             { dst := some 29, op := .loadA 11 (.slot 4), guard := some (28, true) },
             { dst := some 30, op := .loadA 11 (.slot 6), guard := some (28, true) },
             { dst := some 31, op := .callP (.lit (.fn (I 15) [])) [(.slot 29), (.slot 30)] false false, guard := some (28, true) },
             { dst := some 32, op := .pick (.slot 28) (.slot 31) (.lit (.bool false)) },
             { dst := some 2, op := .mv (.slot 32) }])
          (.ret)))))))
  res := [.tmp 2]
  keepOwn := false

/-- lispprover/lispproverlaw8.TermQuotes -/
def F7 (I J : Nat → Nat) : AFunc where
  code := .seq (.reg false [
       { dst := some 1, op := .box (.slot 0) },
       { dst := some 2, op := .mv (.lit (.bool false)) }])
    (.seq (.seq (.reg false [
         { dst := some 7, op := .callP (.lit (.fn (I 8) [])) [] false false },
         { dst := some 8, op := .un .not (.slot 7) }])
      (.cond (.slot 8)
       (.seq (.reg false [
           { dst := some 2, op := .mv (.lit (.bool false)) }])
        (.ret))
       (.skip)))
     (.seq (.seq (.reg false [
          { dst := some 9, op := .loadA 4 (.slot 1) },
          { dst := some 10, op := .callP (.lit (.fn (I 9) [])) [(.slot 9), (.lit (.int .i64 30))] false false },
          { dst := some 11, op := .un .not (.slot 10) }])
       (.cond (.slot 11)
        (.seq (.reg false [
            { dst := some 2, op := .mv (.lit (.bool true)) }])
         (.ret))
        (.skip)))
      (.seq (.reg false [
          { dst := some 12, op := .loadA 4 (.slot 1) },
          { dst := some 13, op := .callP (.lit (.fn (I 11) [])) [(.slot 12)] false false },
          { dst := some 3, op := .alloc [.int .i64 0, .str [], .str [], .int .i64 0, .str [], .str [], .str [], .str [], .str [], .slice [], .slice []] },
          { dst := none, op := .storeA 11 (.slot 3) (.slot 13) }])
       (.seq (.reg false [
           { dst := some 14, op := .loadA 11 (.slot 3) },
           { dst := some 15, op := .callP (.lit (.fn (I 44) [])) [(.slot 14)] false false },
           { dst := some 4, op := .alloc [.int .i64 0, .str [], .str [], .str [], .str [], .str [], .slice []] },
           { dst := none, op := .storeA 7 (.slot 4) (.slot 15) }])
        (.seq (.reg false [
            { dst := some 17, op := .loadA 7 (.slot 4) },
            { dst := some 18, op := .callP (.lit (.fn (I 42) [])) [(.slot 17)] false false },
            { dst := some 16, op := .mv (.take 18) },
            { dst := some 19, op := .extr 16 0 },
            { dst := some 20, op := .extr 16 1 },
            { dst := some 5, op := .alloc [.int .i64 0, .str [], .str [], .int .i64 0, .str [], .str [], .str [], .str [], .str [], .slice [], .slice []] },
            { dst := none, op := .storeA 11 (.slot 5) (.slot 19) },
            { dst := some 6, op := .mv (.slot 20) }])
         (.seq (.reg true [
             { dst := some 21, op := .loadA 7 (.slot 4) },
             { dst := some 22, op := .loadA 11 (.slot 3) },
             { dst := some 23, op := .callP (.lit (.fn (I 45) [])) [(.slot 22)] false false },
             { dst := some 24, op := .callP (.lit (.fn (I 46) [])) [(.slot 21), (.slot 23)] false false },
             { dst := some 25, op := .mv (.slot 24) },
             { dst := some 26, op := .mv (.slot 6), guard := some (25, true) },
             { dst := some 27, op := .pick (.slot 25) (.slot 26) (.lit (.bool false)) },
             { dst := some 28, op := .mv (.slot 27) },
             { dst := some 29, op := .loadA 11 (.slot 5), guard := some (28, true) },
             { dst := some 30, op := .loadA 11 (.slot 3), guard := some (28, true) },
             { dst := some 31, op := .callP (.lit (.fn (I 15) [])) [(.slot 29), (.slot 30)] false false, guard := some (28, true) },
             { dst := some 32, op := .pick (.slot 28) (.slot 31) (.lit (.bool false)) },
             { dst := some 2, op := .mv (.slot 32) }])
          (.ret)))))))
  res := [.tmp 2]
  keepOwn := false

/-- lispprover/lispproverlaw8.first -/
def F8 (I J : Nat → Nat) : AFunc where
  code := .seq (.reg false [
       { dst := some 0, op := .mv (.lit (.bool false)) }])
    (.seq (.reg false [
        { dst := some 8, op := .callP (.lit (.fn (I 47) [])) [(.lit (.int .i64 2))] false false },
        { dst := some 1, op := .mv (.slot 8) }])
     (.seq (.reg true [
         { dst := some 9, op := .mv (.slot 1) },
         { dst := some 10, op := .iaddr 2 (.slot 9) (.lit (.int .i64 0)) },
         { dst := some 11, op := .loadA 2 (.slot 10) },
         { dst := some 12, op := .callP (.lit (.fn (I 25) [])) [(.slot 11)] false false },
         { dst := some 13, op := .mv (.slot 1) },
         { dst := some 14, op := .iaddr 2 (.slot 13) (.lit (.int .i64 1)) },
         { dst := some 15, op := .loadA 2 (.slot 14) },
         { dst := some 16, op := .callP (.lit (.fn (I 25) [])) [(.slot 15)] false false },
         { dst := some 2, op := .alloc [.int .i64 0, .str [], .str [], .int .i64 0, .str [], .str [], .str [], .str [], .str [], .slice [], .slice []] },
         { dst := some 3, op := .alloc [.int .i64 0, .str [], .str [], .int .i64 0, .str [], .str [], .str [], .str [], .str [], .slice [], .slice []] },
         { dst := none, op := .storeAN 11 (.slot 2) (.slot 12) },
         { dst := none, op := .storeAN 11 (.slot 3) (.slot 16) }])
      (.seq (.reg true [
          { dst := some 17, op := .callP (.lit (.fn (I 48) [])) [(.lit (.str [102]))] false false },
          { dst := some 18, op := .loadA 11 (.slot 2) },
          { dst := some 19, op := .loadA 11 (.slot 3) },
          { dst := some 20, op := .lits false 11 [(.slot 18), (.slot 19)] },
          { dst := some 21, op := .callP (.lit (.fn (I 29) [])) [(.slot 17), (.slot 20)] false false },
          { dst := some 4, op := .alloc [.int .i64 0, .str [], .str [], .int .i64 0, .str [], .str [], .str [], .str [], .str [], .slice [], .slice []] },
          { dst := none, op := .storeAN 11 (.slot 4) (.slot 21) }])
       (.seq (.reg true [
           { dst := some 22, op := .loadA 11 (.slot 4) },
           { dst := some 23, op := .mv (.slot 1) },
           { dst := some 24, op := .iaddr 2 (.slot 23) (.lit (.int .i64 0)) },
           { dst := some 25, op := .loadA 2 (.slot 24) },
           { dst := some 26, op := .loadA 11 (.slot 3) },
           { dst := some 27, op := .build [.str [], .str [], .int .i64 0, .str [], .str [], .int .i64 0, .str [], .str [], .str [], .str [], .str [], .slice [], .slice []] [(0, 2, (.slot 25)), (2, 11, (.slot 26))] },
           { dst := some 28, op := .mv (.slot 1) },
           { dst := some 29, op := .iaddr 2 (.slot 28) (.lit (.int .i64 1)) },
           { dst := some 30, op := .loadA 2 (.slot 29) },
           { dst := some 31, op := .loadA 11 (.slot 2) },
           { dst := some 32, op := .build [.str [], .str [], .int .i64 0, .str [], .str [], .int .i64 0, .str [], .str [], .str [], .str [], .str [], .slice [], .slice []] [(0, 2, (.slot 30)), (2, 11, (.slot 31))] },
           { dst := some 33, op := .lits false 13 [(.slot 27), (.slot 32)] },
           { dst := some 34, op := .callP (.lit (.fn (I 13) [])) [(.slot 22), (.slot 33)] false false },
           { dst := some 5, op := .alloc [.int .i64 0, .str [], .str [], .int .i64 0, .str [], .str [], .str [], .str [], .str [], .slice [], .slice []] },
           { dst := none, op := .storeAN 11 (.slot 5) (.slot 34) }])
        (.seq (.reg false [
            { dst := some 36, op := .loadA 11 (.slot 5) },
            { dst := some 37, op := .lits false 1 [(.lit (.int .i64 0))] },
            { dst := some 38, op := .callP (.lit (.fn (I 38) [])) [(.slot 36), (.slot 37)] false false },
            { dst := some 35, op := .mv (.take 38) },
            { dst := some 39, op := .extr 35 0 },
            { dst := some 40, op := .extr 35 1 },
            { dst := some 6, op := .alloc [.int .i64 0, .str [], .str [], .int .i64 0, .str [], .str [], .str [], .str [], .str [], .slice [], .slice []] },
            { dst := none, op := .storeA 11 (.slot 6) (.slot 39) },
            { dst := some 7, op := .mv (.slot 40) }])
         (.seq (.reg false [
             { dst := some 41, op := .mv (.slot 7) },
             { dst := some 42, op := .mv (.slot 41) },
             { dst := some 43, op := .loadA 11 (.slot 6), guard := some (42, true) },
             { dst := some 44, op := .loadA 11 (.slot 3), guard := some (42, true) },
             { dst := some 45, op := .callP (.lit (.fn (I 16) [])) [(.slot 43), (.slot 44)] false false, guard := some (42, true) },
             { dst := some 46, op := .pick (.slot 42) (.slot 45) (.lit (.bool false)) },
             { dst := some 47, op := .mv (.slot 46) },
             { dst := some 48, op := .loadA 11 (.slot 5), guard := some (47, true) },
             { dst := some 49, op := .callP (.lit (.fn (I 49) [])) [(.slot 48)] false false, guard := some (47, true) },
             { dst := some 50, op := .pick (.slot 47) (.slot 49) (.lit (.bool false)) },
             { dst := some 51, op := .mv (.slot 50) },
             { dst := some 52, op := .loadA 11 (.slot 5), guard := some (51, true) },
             { dst := some 53, op := .callP (.lit (.fn (I 50) [])) [(.slot 52)] false false, guard := some (51, true) },
             { dst := some 54, op := .bin .eql (.slot 53) (.lit (.int .i64 3)), guard := some (51, true) },
             { dst := some 55, op := .pick (.slot 51) (.slot 54) (.lit (.bool false)) },
             { dst := some 56, op := .mv (.slot 55) },
             { dst := some 57, op := .loadA 11 (.slot 5), guard := some (56, true) },
             { dst := some 58, op := .lits false 11 [(.slot 57)], guard := some (56, true) },
             { dst := some 59, op := .callP (.lit (.fn (I 19) [])) [(.slot 58)] false false, guard := some (56, true) },
             { dst := some 60, op := .lenL (.slot 59), guard := some (56, true) },
             { dst := some 61, op := .bin .eql (.slot 60) (.lit (.int .i64 2)), guard := some (56, true) },
             { dst := some 62, op := .pick (.slot 56) (.slot 61) (.lit (.bool false)) },
             { dst := some 63, op := .mv (.slot 62) },
             { dst := some 64, op := .loadA 11 (.slot 5), guard := some (63, true) },
             { dst := some 65, op := .callP (.lit (.fn (I 17) [])) [(.slot 64)] false false, guard := some (63, true) },
             { dst := some 66, op := .un .not (.slot 65), guard := some (63, true) },
             { dst := some 67, op := .pick (.slot 63) (.slot 66) (.lit (.bool false)) },
             { dst := some 0, op := .mv (.slot 67) }])
          (.ret)))))))
  res := [.tmp 0]
  keepOwn := false

def F11_0 (I J : Nat → Nat) : AC :=
  .seq (.seq (.reg false [
        { dst := some 35, op := .mv (.slot 7) },
        { dst := some 36, op := .faddr 3 (.slot 1) },
        { dst := some 37, op := .load1 (.slot 36) },
        { dst := some 38, op := .lenL (.slot 37) },
        { dst := some 39, op := .bin .lss (.slot 35) (.slot 38) },
        { dst := some 40, op := .mv (.slot 39) },
        { dst := some 41, op := .mv (.slot 7), guard := some (40, true) },
        { dst := some 42, op := .bin .lss (.slot 41) (.lit (.int .i64 3)), guard := some (40, true) },
        { dst := some 43, op := .pick (.slot 40) (.slot 42) (.lit (.bool false)) }])
     (.cond (.slot 43)
      (.skip)
      (.exit 0)))
    (.seq (.block 1 (.reg false [
         { dst := some 46, op := .mv (.take 6) },
         { dst := some 47, op := .faddr 3 (.slot 1) },
         { dst := some 48, op := .load1 (.slot 47) },
         { dst := some 49, op := .mv (.slot 7) },
         { dst := some 50, op := .iaddr 4 (.slot 48) (.slot 49) },
         { dst := some 51, op := .loadA 4 (.slot 50) },
         { dst := some 52, op := .callP (.lit (.fn (I 11) [])) [(.slot 51)] false false },
         { dst := some 53, op := .lits false 11 [(.slot 52)] },
         { dst := some 54, op := .app false false 11 (.take 46) (.slot 53) },
         { dst := some 6, op := .mv (.take 54) }]))
     (.reg false [
        { dst := some 44, op := .mv (.slot 7) },
        { dst := some 45, op := .bin .add (.slot 44) (.lit (.int .i64 1)) },
        { dst := some 7, op := .mv (.slot 45) }]))
/-- lispprover/lispproverlaw8.made -/
def F11 (I J : Nat → Nat) : AFunc where
  code := .seq (.reg false [
       { dst := some 1, op := .box (.slot 0) },
       { dst := some 2, op := .alloc [.int .i64 0, .str [], .str [], .int .i64 0, .str [], .str [], .str [], .str [], .str [], .slice [], .slice []] }])
    (.seq (.reg false [
        { dst := some 8, op := .faddr 0 (.slot 1) },
        { dst := some 9, op := .load1 (.slot 8) },
        { dst := some 10, op := .callP (.lit (.fn (I 37) [])) [(.slot 9), (.lit (.int .i64 5))] false false },
        { dst := some 3, op := .mv (.slot 10) }])
     (.seq (.reg false [
         { dst := some 11, op := .callP (.lit (.fn (I 47) [])) [(.lit (.int .i64 4))] false false },
         { dst := some 4, op := .mv (.slot 11) }])
      (.seq (.seq (.reg false [
           { dst := some 12, op := .mv (.slot 3) },
           { dst := some 13, op := .bin .lss (.slot 12) (.lit (.int .i64 2)) }])
        (.cond (.slot 13)
         (.seq (.reg false [
             { dst := some 14, op := .mv (.slot 4) },
             { dst := some 15, op := .faddr 1 (.slot 1) },
             { dst := some 16, op := .load1 (.slot 15) },
             { dst := some 17, op := .callP (.lit (.fn (I 37) [])) [(.slot 16), (.lit (.int .i64 4))] false false },
             { dst := some 18, op := .iaddr 2 (.slot 14) (.slot 17) },
             { dst := some 19, op := .loadA 2 (.slot 18) },
             { dst := some 20, op := .callP (.lit (.fn (I 26) [])) [(.slot 19)] false false },
             { dst := none, op := .storeA 11 (.slot 2) (.slot 20) }])
          (.ret))
         (.skip)))
       (.seq (.seq (.reg false [
            { dst := some 21, op := .mv (.slot 3) },
            { dst := some 22, op := .bin .eql (.slot 21) (.lit (.int .i64 2)) }])
         (.cond (.slot 22)
          (.seq (.reg false [
              { dst := some 23, op := .faddr 1 (.slot 1) },
              { dst := some 24, op := .load1 (.slot 23) },
              { dst := some 25, op := .faddr 1 (.slot 1) },
              { dst := some 26, op := .load1 (.slot 25) },
              { dst := some 27, op := .faddr 2 (.slot 1) },
              { dst := some 28, op := .load1 (.slot 27) },
              { dst := some 29, op := .faddr 3 (.slot 1) },
              { dst := some 30, op := .load1 (.slot 29) },
              { dst := some 31, op := .build [.int .i64 0, .int .i64 0, .str [], .slice []] [(0, 1, (.slot 24)), (1, 1, (.slot 26)), (2, 1, (.slot 28)), (3, 1, (.slot 30))] },
              { dst := some 32, op := .callP (.lit (.fn (I 24) [])) [(.slot 31)] false false },
              { dst := some 33, op := .callP (.lit (.fn (I 28) [])) [(.slot 32)] false false },
              { dst := none, op := .storeA 11 (.slot 2) (.slot 33) }])
           (.ret))
          (.skip)))
        (.seq (.reg false [
            { dst := some 34, op := .lits false 1 [(.lit (.str [102])), (.lit (.str [103])), (.lit (.str [104]))] },
            { dst := some 5, op := .mv (.slot 34) }])
         (.seq (.reg false [
             { dst := some 6, op := .mv (.lit (.onil)) }])
          (.seq (.seq (.reg false [
               { dst := some 7, op := .mv (.lit (.int .i64 0)) }])
            (.block 0 (.loop [1, 2, 5, 6, 7] [1, 2] (F11_0 I J))))
           (.seq (.reg false [
               { dst := some 55, op := .mv (.slot 5) },
               { dst := some 56, op := .faddr 1 (.slot 1) },
               { dst := some 57, op := .load1 (.slot 56) },
               { dst := some 58, op := .callP (.lit (.fn (I 37) [])) [(.slot 57), (.lit (.int .i64 3))] false false },
               { dst := some 59, op := .iaddr 1 (.slot 55) (.slot 58) },
               { dst := some 60, op := .load1 (.slot 59) },
               { dst := some 61, op := .callP (.lit (.fn (I 48) [])) [(.slot 60)] false false },
               { dst := some 62, op := .mv (.slot 6) },
               { dst := some 63, op := .callP (.lit (.fn (I 30) [])) [(.slot 61), (.slot 62)] false false },
               { dst := none, op := .storeA 11 (.slot 2) (.slot 63) }])
            (.ret)))))))))
  res := [.cell 2 11 true]
  keepOwn := false

def F12_0 (I J : Nat → Nat) : AC :=
  .seq (.seq (.reg false [
        { dst := some 7, op := .mv (.slot 5) },
        { dst := some 8, op := .mv (.slot 0) },
        { dst := some 9, op := .lenL (.slot 8) },
        { dst := some 10, op := .bin .lss (.slot 7) (.slot 9) }])
     (.cond (.slot 10)
      (.skip)
      (.exit 0)))
    (.seq (.block 1 (.reg true [
         { dst := some 13, op := .mv (.take 4) },
         { dst := some 14, op := .mv (.slot 3) },
         { dst := some 15, op := .mv (.slot 0) },
         { dst := some 16, op := .mv (.slot 5) },
         { dst := some 17, op := .iaddr 4 (.slot 15) (.slot 16) },
         { dst := some 18, op := .faddr 1 (.slot 17) },
         { dst := some 19, op := .load1 (.slot 18) },
         { dst := some 20, op := .callP (.lit (.fn (I 37) [])) [(.slot 19), (.lit (.int .i64 4))] false false },
         { dst := some 21, op := .iaddr 2 (.slot 14) (.slot 20) },
         { dst := some 22, op := .loadA 2 (.slot 21) },
         { dst := some 23, op := .mv (.slot 0) },
         { dst := some 24, op := .mv (.slot 5) },
         { dst := some 25, op := .iaddr 4 (.slot 23) (.slot 24) },
         { dst := some 26, op := .loadA 4 (.slot 25) },
         { dst := some 27, op := .callP (.lit (.fn (I 11) [])) [(.slot 26)] false false },
         { dst := some 28, op := .build [.str [], .str [], .int .i64 0, .str [], .str [], .int .i64 0, .str [], .str [], .str [], .str [], .str [], .slice [], .slice []] [(0, 2, (.slot 22)), (2, 11, (.slot 27))] },
         { dst := some 29, op := .lits false 13 [(.slot 28)] },
         { dst := some 30, op := .app false false 13 (.take 13) (.slot 29) },
         { dst := some 4, op := .mv (.take 30) }]))
     (.reg false [
        { dst := some 11, op := .mv (.slot 5) },
        { dst := some 12, op := .bin .add (.slot 11) (.lit (.int .i64 1)) },
        { dst := some 5, op := .mv (.slot 12) }]))
/-- lispprover/lispproverlaw8.assigns -/
def F12 (I J : Nat → Nat) : AFunc where
  code := .seq (.reg false [
       { dst := some 2, op := .mv (.lit (.slice [])) }])
    (.seq (.reg false [
        { dst := some 6, op := .callP (.lit (.fn (I 47) [])) [(.lit (.int .i64 4))] false false },
        { dst := some 3, op := .mv (.slot 6) }])
     (.seq (.reg false [
         { dst := some 4, op := .mv (.lit (.onil)) }])
      (.seq (.seq (.reg false [
           { dst := some 5, op := .mv (.lit (.int .i64 0)) }])
        (.block 0 (.loop [0, 3, 4, 5] [] (F12_0 I J))))
       (.seq (.reg false [
           { dst := some 31, op := .mv (.slot 4) },
           { dst := some 2, op := .mv (.slot 31) }])
        (.ret)))))
  res := [.tmp 2]
  keepOwn := false

def F21_0 (I J : Nat → Nat) : AC :=
  .seq (.seq (.reg false [
        { dst := some 11, op := .mv (.slot 5) },
        { dst := some 12, op := .mv (.slot 0) },
        { dst := some 13, op := .lenL (.slot 12) },
        { dst := some 14, op := .bin .lss (.slot 11) (.slot 13) }])
     (.cond (.slot 14)
      (.skip)
      (.exit 0)))
    (.seq (.block 1 (.seq (.reg true [
          { dst := some 17, op := .mv (.slot 0) },
          { dst := some 18, op := .mv (.slot 5) },
          { dst := some 19, op := .iaddr 2 (.slot 17) (.slot 18) },
          { dst := some 20, op := .loadA 2 (.slot 19) },
          { dst := some 21, op := .mv (.slot 1) },
          { dst := some 22, op := .mv (.slot 5) },
          { dst := some 23, op := .iaddr 2 (.slot 21) (.slot 22) },
          { dst := some 24, op := .loadA 2 (.slot 23) },
          { dst := some 25, op := .eqA true [0, 0] (.slot 20) (.slot 24) }])
       (.cond (.slot 25)
        (.seq (.reg false [
            { dst := some 4, op := .mv (.lit (.bool false)) }])
         (.ret))
        (.skip))))
     (.reg false [
        { dst := some 15, op := .mv (.slot 5) },
        { dst := some 16, op := .bin .add (.slot 15) (.lit (.int .i64 1)) },
        { dst := some 5, op := .mv (.slot 16) }]))
/-- lispprover/lispproverlaw8.sameSymbols -/
def F21 (I J : Nat → Nat) : AFunc where
  code := .seq (.reg false [
       { dst := some 4, op := .mv (.lit (.bool false)) }])
    (.seq (.seq (.reg false [
         { dst := some 6, op := .mv (.slot 0) },
         { dst := some 7, op := .lenL (.slot 6) },
         { dst := some 8, op := .mv (.slot 1) },
         { dst := some 9, op := .lenL (.slot 8) },
         { dst := some 10, op := .bin .neq (.slot 7) (.slot 9) }])
      (.cond (.slot 10)
       (.seq (.reg false [
           { dst := some 4, op := .mv (.lit (.bool false)) }])
        (.ret))
       (.skip)))
     (.seq (.seq (.reg false [
          { dst := some 5, op := .mv (.lit (.int .i64 0)) }])
       (.block 0 (.loop [0, 1, 5] [] (F21_0 I J))))
      (.seq (.reg false [
          { dst := some 4, op := .mv (.lit (.bool true)) }])
       (.ret))))
  res := [.tmp 4]
  keepOwn := false

end Go.Vs.C

namespace Go.Vs.C
open Go Go.Vs
set_option maxRecDepth 100000
set_option linter.unusedVariables false
/-- lispprover/lispprovermake.Few -/
def F9 (I J : Nat → Nat) : AFunc where
  code := .seq (.reg false [
       { dst := some 2, op := .box (.slot 0) },
       { dst := some 4, op := .mv (.lit (.bool false)) }])
    (.seq (.reg false [
        { dst := some 5, op := .loadA 4 (.slot 2) },
        { dst := some 6, op := .mv (.slot 1) },
        { dst := some 7, op := .callP (.lit (.fn (I 51) [])) [(.slot 5), (.slot 6)] false false },
        { dst := some 8, op := .bin .geq (.slot 7) (.lit (.int .i64 0)) },
        { dst := some 4, op := .mv (.slot 8) }])
     (.ret))
  res := [.tmp 4]
  keepOwn := false

def F10_0 (I J : Nat → Nat) : AC :=
  .seq (.seq (.reg false [
        { dst := some 9, op := .mv (.slot 5) },
        { dst := some 10, op := .mv (.slot 0) },
        { dst := some 11, op := .lenL (.slot 10) },
        { dst := some 12, op := .bin .lss (.slot 9) (.slot 11) }])
     (.cond (.slot 12)
      (.skip)
      (.exit 0)))
    (.seq (.block 1 (.seq (.reg false [
          { dst := some 15, op := .mv (.slot 0) },
          { dst := some 16, op := .mv (.slot 5) },
          { dst := some 17, op := .iaddr 4 (.slot 15) (.slot 16) },
          { dst := some 18, op := .loadA 4 (.slot 17) },
          { dst := some 19, op := .mv (.slot 1) },
          { dst := some 20, op := .callP (.lit (.fn (I 9) [])) [(.slot 18), (.slot 19)] false false },
          { dst := some 21, op := .un .not (.slot 20) }])
       (.cond (.slot 21)
        (.seq (.reg false [
            { dst := some 4, op := .mv (.lit (.bool false)) }])
         (.ret))
        (.skip))))
     (.reg false [
        { dst := some 13, op := .mv (.slot 5) },
        { dst := some 14, op := .bin .add (.slot 13) (.lit (.int .i64 1)) },
        { dst := some 5, op := .mv (.slot 14) }]))
/-- lispprover/lispprovermake.FewAll -/
def F10 (I J : Nat → Nat) : AFunc where
  code := .seq (.reg false [
       { dst := some 4, op := .mv (.lit (.bool false)) }])
    (.seq (.seq (.reg false [
         { dst := some 6, op := .mv (.slot 0) },
         { dst := some 7, op := .lenL (.slot 6) },
         { dst := some 8, op := .bin .gtr (.slot 7) (.lit (.int .i64 8)) }])
      (.cond (.slot 8)
       (.seq (.reg false [
           { dst := some 4, op := .mv (.lit (.bool false)) }])
        (.ret))
       (.skip)))
     (.seq (.seq (.reg false [
          { dst := some 5, op := .mv (.lit (.int .i64 0)) }])
       (.block 0 (.loop [0, 1, 5] [] (F10_0 I J))))
      (.seq (.reg false [
          { dst := some 4, op := .mv (.lit (.bool true)) }])
       (.ret))))
  res := [.tmp 4]
  keepOwn := false

def F24_0 (I J : Nat → Nat) : AC :=
  .seq (.seq (.reg false [
        { dst := some 49, op := .mv (.slot 4) },
        { dst := some 50, op := .faddr 3 (.slot 1) },
        { dst := some 51, op := .load1 (.slot 50) },
        { dst := some 52, op := .lenL (.slot 51) },
        { dst := some 53, op := .bin .lss (.slot 49) (.slot 52) }])
     (.cond (.slot 53)
      (.skip)
      (.exit 1)))
    (.seq (.block 2 (.reg false [
         { dst := some 56, op := .mv (.take 3) },
         { dst := some 57, op := .faddr 3 (.slot 1) },
         { dst := some 58, op := .load1 (.slot 57) },
         { dst := some 59, op := .mv (.slot 4) },
         { dst := some 60, op := .iaddr 4 (.slot 58) (.slot 59) },
         { dst := some 61, op := .loadA 4 (.slot 60) },
         { dst := some 62, op := .callP (.lit (.fn (I 24) [])) [(.slot 61)] false false },
         { dst := some 63, op := .lits false 7 [(.slot 62)] },
         { dst := some 64, op := .app false false 7 (.take 56) (.slot 63) },
         { dst := some 3, op := .mv (.take 64) }]))
     (.reg false [
        { dst := some 54, op := .mv (.slot 4) },
        { dst := some 55, op := .bin .add (.slot 54) (.lit (.int .i64 1)) },
        { dst := some 4, op := .mv (.slot 55) }]))
/-- lispprover/lispprovermake.Object -/
def F24 (I J : Nat → Nat) : AFunc where
  code := .seq (.reg false [
       { dst := some 1, op := .box (.slot 0) },
       { dst := some 2, op := .alloc [.int .i64 0, .str [], .str [], .str [], .str [], .str [], .slice []] }])
    (.seq (.seq (.reg false [
         { dst := some 5, op := .faddr 0 (.slot 1) },
         { dst := some 6, op := .load1 (.slot 5) },
         { dst := some 7, op := .callP (.lit (.fn (I 37) [])) [(.slot 6), (.lit (.int .i64 8))] false false }])
      (.block 0 (.seq (.seq (.reg false [
            { dst := some 9, op := .bin .eql (.slot 7) (.lit (.int .i64 0)) },
            { dst := some 8, op := .mv (.slot 9) }])
         (.cond (.slot 8)
          (.skip)
          (.reg false [
             { dst := some 10, op := .bin .eql (.slot 7) (.lit (.int .i64 1)) },
             { dst := some 8, op := .mv (.slot 10) }])))
        (.cond (.slot 8)
         (.seq (.reg false [
             { dst := some 11, op := .faddr 1 (.slot 1) },
             { dst := some 12, op := .load1 (.slot 11) },
             { dst := some 13, op := .callP (.lit (.fn (I 37) [])) [(.slot 12), (.lit (.int .i64 2001))] false false },
             { dst := some 14, op := .bin .sub (.slot 13) (.lit (.int .i64 1000)) },
             { dst := some 15, op := .callP (.lit (.fn (I 64) [])) [(.slot 14)] false false },
             { dst := none, op := .storeA 7 (.slot 2) (.slot 15) }])
          (.ret))
         (.seq (.reg false [
             { dst := some 17, op := .bin .eql (.slot 7) (.lit (.int .i64 2)) },
             { dst := some 16, op := .mv (.slot 17) }])
          (.cond (.slot 16)
           (.seq (.reg true [
               { dst := some 18, op := .faddr 1 (.slot 1) },
               { dst := some 19, op := .ldL 1 none (.slot 18) },
               { dst := some 20, op := .callP (.lit (.fn (I 37) [])) [(.slot 19), (.lit (.int .i64 41))] false false },
               { dst := some 21, op := .bin .sub (.slot 20) (.lit (.int .i64 20)) },
               { dst := some 22, op := .callP (.lit (.fn (I 65) [])) [(.slot 21)] false false },
               { dst := some 23, op := .faddr 2 (.slot 1) },
               { dst := some 24, op := .ldL 1 none (.slot 23) },
               { dst := some 25, op := .lenS (.slot 24) },
               { dst := some 26, op := .bin .add (.lit (.int .i64 1)) (.slot 25) },
               { dst := some 27, op := .callP (.lit (.fn (I 65) [])) [(.slot 26)] false false },
               { dst := some 28, op := .callP (.lit (.fn (I 66) [])) [(.slot 22), (.slot 27)] false false },
               { dst := none, op := .stL 2 (some 7) (.slot 2) (.slot 28) }])
            (.ret))
           (.seq (.reg false [
               { dst := some 30, op := .bin .eql (.slot 7) (.lit (.int .i64 3)) },
               { dst := some 29, op := .mv (.slot 30) }])
            (.cond (.slot 29)
             (.seq (.reg false [
                 { dst := some 31, op := .faddr 1 (.slot 1) },
                 { dst := some 32, op := .load1 (.slot 31) },
                 { dst := some 33, op := .callP (.lit (.fn (I 67) [])) [(.slot 32)] false false },
                 { dst := some 34, op := .callP (.lit (.fn (I 68) [])) [(.slot 33)] false false },
                 { dst := none, op := .storeA 7 (.slot 2) (.slot 34) }])
              (.ret))
             (.seq (.reg false [
                 { dst := some 36, op := .bin .eql (.slot 7) (.lit (.int .i64 4)) },
                 { dst := some 35, op := .mv (.slot 36) }])
              (.cond (.slot 35)
               (.seq (.reg false [
                   { dst := some 37, op := .faddr 2 (.slot 1) },
                   { dst := some 38, op := .load1 (.slot 37) },
                   { dst := some 39, op := .callP (.lit (.fn (I 69) [])) [(.slot 38)] false false },
                   { dst := none, op := .storeA 7 (.slot 2) (.slot 39) }])
                (.ret))
               (.seq (.reg false [
                   { dst := some 41, op := .bin .eql (.slot 7) (.lit (.int .i64 5)) },
                   { dst := some 40, op := .mv (.slot 41) }])
                (.cond (.slot 40)
                 (.seq (.reg true [
                     { dst := some 42, op := .ldL 1 (some 4) (.slot 1) },
                     { dst := some 43, op := .callP (.lit (.fn (I 70) [])) [(.slot 42), (.lit (.int .i64 0))] false false },
                     { dst := some 44, op := .callP (.lit (.fn (I 24) [])) [(.slot 43)] false false },
                     { dst := some 45, op := .ldL 1 (some 4) (.slot 1) },
                     { dst := some 46, op := .callP (.lit (.fn (I 70) [])) [(.slot 45), (.lit (.int .i64 1))] false false },
                     { dst := some 47, op := .callP (.lit (.fn (I 24) [])) [(.slot 46)] false false },
                     { dst := some 48, op := .callP (.lit (.fn (I 71) [])) [(.slot 44), (.slot 47)] false false },
                     { dst := none, op := .stL 2 (some 7) (.slot 2) (.slot 48) }])
                  (.ret))
                 (.skip)))))))))))))
     (.seq (.reg false [
         { dst := some 3, op := .mv (.lit (.onil)) }])
      (.seq (.seq (.reg false [
           { dst := some 4, op := .mv (.lit (.int .i64 0)) }])
        (.block 1 (.loop [1, 2, 3, 4] [1, 2] (F24_0 I J))))
       (.seq (.reg false [
           { dst := some 65, op := .mv (.slot 3) },
           { dst := some 66, op := .callP (.lit (.fn (I 72) [])) [(.slot 65)] false false },
           { dst := none, op := .storeA 7 (.slot 2) (.slot 66) }])
        (.ret)))))
  res := [.cell 2 7 true]
  keepOwn := false

/-- lispprover/lispprovermake.Mod -/
def F37 (I J : Nat → Nat) : AFunc where
  code := .seq (.reg false [
       { dst := some 4, op := .mv (.lit (.int .i64 0)) }])
    (.seq (.reg false [
        { dst := some 6, op := .mv (.slot 0) },
        { dst := some 7, op := .mv (.slot 1) },
        { dst := some 8, op := .bin .rem (.slot 6) (.slot 7) },
        { dst := some 5, op := .mv (.slot 8) }])
     (.seq (.seq (.reg false [
          { dst := some 9, op := .mv (.slot 5) },
          { dst := some 10, op := .bin .lss (.slot 9) (.lit (.int .i64 0)) }])
       (.cond (.slot 10)
        (.reg false [
           { dst := some 11, op := .mv (.slot 5) },
           { dst := some 12, op := .mv (.slot 1) },
           { dst := some 13, op := .bin .add (.slot 11) (.slot 12) },
           { dst := some 5, op := .mv (.slot 13) }])
        (.skip)))
      (.seq (.reg false [
          { dst := some 14, op := .mv (.slot 5) },
          { dst := some 4, op := .mv (.slot 14) }])
       (.ret))))
  res := [.tmp 4]
  keepOwn := false

/-- lispprover/lispprovermake.Vars -/
def F47 (I J : Nat → Nat) : AFunc where
  code := .seq (.reg false [
       { dst := some 2, op := .mv (.lit (.slice [])) }])
    (.seq (.reg false [
        { dst := some 4, op := .callP (.lit (.fn (I 48) [])) [(.lit (.str [120]))] false false },
        { dst := some 5, op := .callP (.lit (.fn (I 48) [])) [(.lit (.str [121]))] false false },
        { dst := some 6, op := .callP (.lit (.fn (I 48) [])) [(.lit (.str [122]))] false false },
        { dst := some 7, op := .callP (.lit (.fn (I 48) [])) [(.lit (.str [117]))] false false },
        { dst := some 8, op := .lits false 2 [(.slot 4), (.slot 5), (.slot 6), (.slot 7)] },
        { dst := some 3, op := .mv (.slot 8) }])
     (.seq (.reg false [
         { dst := some 9, op := .mv (.slot 3) },
         { dst := some 10, op := .mv (.slot 0) },
         { dst := some 11, op := .mn (.slot 10) (.lit (.int .i64 4)) },
         { dst := some 12, op := .mx (.lit (.int .i64 0)) (.slot 11) },
         { dst := some 13, op := .slcL 2 (.slot 9) none (some (.slot 12)) },
         { dst := some 2, op := .mv (.slot 13) }])
      (.ret)))
  res := [.tmp 2]
  keepOwn := false

/-- lispprover/lispprovermake.User -/
def F48 (I J : Nat → Nat) : AFunc where
  code := .seq (.reg false [
       { dst := some 2, op := .alloc [.str [], .str []] }])
    (.seq (.reg false [
        { dst := some 3, op := .mv (.slot 0) },
        { dst := some 4, op := .build [.str [], .str []] [(0, 1, (.lit (.str [117, 115, 101, 114]))), (1, 1, (.slot 3))] },
        { dst := none, op := .storeA 2 (.slot 2) (.slot 4) }])
     (.ret))
  res := [.cell 2 2 true]
  keepOwn := false

def F51_0 (I J : Nat → Nat) : AC :=
  .seq (.seq (.reg false [
        { dst := some 18, op := .mv (.slot 5) },
        { dst := some 19, op := .faddr 3 (.slot 2) },
        { dst := some 20, op := .load1 (.slot 19) },
        { dst := some 21, op := .lenL (.slot 20) },
        { dst := some 22, op := .bin .lss (.slot 18) (.slot 21) },
        { dst := some 23, op := .mv (.slot 22) },
        { dst := some 24, op := .mv (.slot 1), guard := some (23, true) },
        { dst := some 25, op := .bin .geq (.slot 24) (.lit (.int .i64 0)), guard := some (23, true) },
        { dst := some 26, op := .pick (.slot 23) (.slot 25) (.lit (.bool false)) }])
     (.cond (.slot 26)
      (.skip)
      (.exit 0)))
    (.seq (.block 1 (.reg false [
         { dst := some 29, op := .faddr 3 (.slot 2) },
         { dst := some 30, op := .load1 (.slot 29) },
         { dst := some 31, op := .mv (.slot 5) },
         { dst := some 32, op := .iaddr 4 (.slot 30) (.slot 31) },
         { dst := some 33, op := .loadA 4 (.slot 32) },
         { dst := some 34, op := .mv (.slot 1) },
         { dst := some 35, op := .callP (.lit (.fn (I 51) [])) [(.slot 33), (.slot 34)] false false },
         { dst := some 1, op := .mv (.slot 35) }]))
     (.reg false [
        { dst := some 27, op := .mv (.slot 5) },
        { dst := some 28, op := .bin .add (.slot 27) (.lit (.int .i64 1)) },
        { dst := some 5, op := .mv (.slot 28) }]))
/-- lispprover/lispprovermake.left -/
def F51 (I J : Nat → Nat) : AFunc where
  code := .seq (.reg false [
       { dst := some 2, op := .box (.slot 0) },
       { dst := some 4, op := .mv (.lit (.int .i64 0)) }])
    (.seq (.seq (.reg false [
         { dst := some 6, op := .faddr 2 (.slot 2) },
         { dst := some 7, op := .load1 (.slot 6) },
         { dst := some 8, op := .lenS (.slot 7) },
         { dst := some 9, op := .bin .gtr (.slot 8) (.lit (.int .i64 12)) },
         { dst := some 10, op := .mv (.slot 9) },
         { dst := some 11, op := .faddr 3 (.slot 2), guard := some (10, false) },
         { dst := some 12, op := .load1 (.slot 11), guard := some (10, false) },
         { dst := some 13, op := .lenL (.slot 12), guard := some (10, false) },
         { dst := some 14, op := .bin .gtr (.slot 13) (.lit (.int .i64 6)), guard := some (10, false) },
         { dst := some 15, op := .pick (.slot 10) (.lit (.bool true)) (.slot 14) }])
      (.cond (.slot 15)
       (.seq (.reg false [
           { dst := some 4, op := .mv (.lit (.int .i64 (-1))) }])
        (.ret))
       (.skip)))
     (.seq (.reg false [
         { dst := some 16, op := .mv (.slot 1) },
         { dst := some 17, op := .bin .sub (.slot 16) (.lit (.int .i64 1)) },
         { dst := some 1, op := .mv (.slot 17) }])
      (.seq (.seq (.reg false [
           { dst := some 5, op := .mv (.lit (.int .i64 0)) }])
        (.block 0 (.loop [1, 2, 5] [2] (F51_0 I J))))
       (.seq (.reg false [
           { dst := some 36, op := .mv (.slot 1) },
           { dst := some 4, op := .mv (.slot 36) }])
        (.ret)))))
  res := [.tmp 4]
  keepOwn := false

/-- lispprover/lispprovermake.Sym -/
def F67 (I J : Nat → Nat) : AFunc where
  code := .seq (.reg false [
       { dst := some 2, op := .alloc [.str [], .str []] }])
    (.seq (.reg false [
        { dst := some 5, op := .lits false 1 [(.lit (.str [97])), (.lit (.str [98])), (.lit (.str [102, 111, 111])), (.lit (.str [111, 100, 100, 32, 110, 97, 109, 101])), (.lit (.str [49])), (.lit (.str [120, 124, 121])), (.lit (.str [46])), (.lit (.str [45, 50, 47, 51])), (.lit (.str [35]))] },
        { dst := some 3, op := .mv (.slot 5) }])
     (.seq (.reg false [
         { dst := some 6, op := .mv (.slot 0) },
         { dst := some 7, op := .mv (.slot 3) },
         { dst := some 8, op := .lenL (.slot 7) },
         { dst := some 9, op := .bin .add (.slot 8) (.lit (.int .i64 4)) },
         { dst := some 10, op := .callP (.lit (.fn (I 37) [])) [(.slot 6), (.slot 9)] false false },
         { dst := some 4, op := .mv (.slot 10) }])
      (.seq (.block 0 (.seq (.reg false [
            { dst := some 12, op := .mv (.slot 4) },
            { dst := some 13, op := .mv (.slot 3) },
            { dst := some 14, op := .lenL (.slot 13) },
            { dst := some 15, op := .bin .lss (.slot 12) (.slot 14) },
            { dst := some 11, op := .mv (.slot 15) }])
         (.cond (.slot 11)
          (.seq (.reg false [
              { dst := some 16, op := .mv (.slot 3) },
              { dst := some 17, op := .mv (.slot 4) },
              { dst := some 18, op := .iaddr 1 (.slot 16) (.slot 17) },
              { dst := some 19, op := .load1 (.slot 18) },
              { dst := some 20, op := .callP (.lit (.fn (I 48) [])) [(.slot 19)] false false },
              { dst := none, op := .storeA 2 (.slot 2) (.slot 20) }])
           (.ret))
          (.seq (.reg false [
              { dst := some 22, op := .mv (.slot 4) },
              { dst := some 23, op := .mv (.slot 3) },
              { dst := some 24, op := .lenL (.slot 23) },
              { dst := some 25, op := .bin .eql (.slot 22) (.slot 24) },
              { dst := some 21, op := .mv (.slot 25) }])
           (.cond (.slot 21)
            (.seq (.reg false [
                { dst := some 26, op := .callP (.lit (.fn (I 73) [])) [(.lit (.str [110, 105, 108]))] false false },
                { dst := none, op := .storeA 2 (.slot 2) (.slot 26) }])
             (.ret))
            (.seq (.reg false [
                { dst := some 28, op := .mv (.slot 4) },
                { dst := some 29, op := .mv (.slot 3) },
                { dst := some 30, op := .lenL (.slot 29) },
                { dst := some 31, op := .bin .add (.slot 30) (.lit (.int .i64 1)) },
                { dst := some 32, op := .bin .eql (.slot 28) (.slot 31) },
                { dst := some 27, op := .mv (.slot 32) }])
             (.cond (.slot 27)
              (.seq (.reg false [
                  { dst := some 33, op := .callP (.lit (.fn (I 73) [])) [(.lit (.str [116]))] false false },
                  { dst := none, op := .storeA 2 (.slot 2) (.slot 33) }])
               (.ret))
              (.seq (.reg false [
                  { dst := some 35, op := .mv (.slot 4) },
                  { dst := some 36, op := .mv (.slot 3) },
                  { dst := some 37, op := .lenL (.slot 36) },
                  { dst := some 38, op := .bin .add (.slot 37) (.lit (.int .i64 2)) },
                  { dst := some 39, op := .bin .eql (.slot 35) (.slot 38) },
                  { dst := some 34, op := .mv (.slot 39) }])
               (.cond (.slot 34)
                (.seq (.reg false [
                    { dst := some 40, op := .callP (.lit (.fn (I 73) [])) [(.lit (.str [99, 97, 114]))] false false },
                    { dst := none, op := .storeA 2 (.slot 2) (.slot 40) }])
                 (.ret))
                (.skip))))))))))
       (.seq (.reg false [
           { dst := some 41, op := .callP (.lit (.fn (I 73) [])) [(.lit (.str [113, 117, 111, 116, 101]))] false false },
           { dst := none, op := .storeA 2 (.slot 2) (.slot 41) }])
        (.ret)))))
  res := [.cell 2 2 true]
  keepOwn := false

/-- lispprover/lispprovermake.part -/
def F70 (I J : Nat → Nat) : AFunc where
  code := .seq (.reg false [
       { dst := some 2, op := .box (.slot 0) },
       { dst := some 4, op := .alloc [.int .i64 0, .int .i64 0, .str [], .slice []] }])
    (.seq (.seq (.reg false [
         { dst := some 5, op := .mv (.slot 1) },
         { dst := some 6, op := .faddr 3 (.slot 2) },
         { dst := some 7, op := .load1 (.slot 6) },
         { dst := some 8, op := .lenL (.slot 7) },
         { dst := some 9, op := .bin .lss (.slot 5) (.slot 8) }])
      (.cond (.slot 9)
       (.seq (.reg false [
           { dst := some 10, op := .faddr 3 (.slot 2) },
           { dst := some 11, op := .load1 (.slot 10) },
           { dst := some 12, op := .mv (.slot 1) },
           { dst := some 13, op := .iaddr 4 (.slot 11) (.slot 12) },
           { dst := some 14, op := .loadA 4 (.slot 13) },
           { dst := none, op := .storeA 4 (.slot 4) (.slot 14) }])
        (.ret))
       (.skip)))
     (.seq (.reg false [
         { dst := some 15, op := .build [.int .i64 0, .int .i64 0, .str [], .slice []] [] },
         { dst := none, op := .storeA 4 (.slot 4) (.slot 15) }])
      (.ret)))
  res := [.cell 4 4 true]
  keepOwn := false

end Go.Vs.C

namespace Go.Vs.C
open Go Go.Vs
set_option maxRecDepth 100000
set_option linter.unusedVariables false
/-- lispprover/lispproverref1.FromInt -/
def F65 (I J : Nat → Nat) : AFunc where
  code := .seq (.reg false [
       { dst := some 2, op := .mv (.lit (.str [])) }])
    (.seq (.reg false [
        { dst := some 3, op := .mv (.slot 0) },
        { dst := some 4, op := .callP (.lit (.fn (I 88) [])) [(.slot 3)] false false },
        { dst := some 2, op := .mv (.slot 4) }])
     (.ret))
  res := [.tmp 2]
  keepOwn := false

/-- lispprover/lispproverref1.Reduce -/
def F89 (I J : Nat → Nat) : AFunc where
  code := .seq (.reg false [
       { dst := some 4, op := .mv (.lit (.str [])) },
       { dst := some 5, op := .mv (.lit (.str [])) }])
    (.seq (.reg false [
        { dst := some 13, op := .mv (.slot 1) },
        { dst := some 14, op := .callP (.lit (.fn (I 106) [])) [(.slot 13)] false false },
        { dst := some 12, op := .mv (.take 14) },
        { dst := some 15, op := .extr 12 0 },
        { dst := some 16, op := .extr 12 1 },
        { dst := some 6, op := .mv (.slot 15) },
        { dst := some 7, op := .mv (.slot 16) }])
     (.seq (.seq (.reg false [
          { dst := some 17, op := .mv (.slot 7) },
          { dst := some 18, op := .lenL (.slot 17) },
          { dst := some 19, op := .bin .eql (.slot 18) (.lit (.int .i64 0)) }])
       (.cond (.slot 19)
        (.seq (.reg false [
            { dst := some 4, op := .mv (.lit (.str [48])) },
            { dst := some 5, op := .mv (.lit (.str [49])) }])
         (.ret))
        (.skip)))
      (.seq (.reg false [
          { dst := some 21, op := .mv (.slot 0) },
          { dst := some 22, op := .callP (.lit (.fn (I 106) [])) [(.slot 21)] false false },
          { dst := some 20, op := .mv (.take 22) },
          { dst := some 23, op := .extr 20 0 },
          { dst := some 24, op := .extr 20 1 },
          { dst := some 8, op := .mv (.slot 23) },
          { dst := some 9, op := .mv (.slot 24) }])
       (.seq (.reg false [
           { dst := some 26, op := .mv (.slot 0) },
           { dst := some 27, op := .mv (.slot 1) },
           { dst := some 28, op := .callP (.lit (.fn (I 107) [])) [(.slot 26), (.slot 27)] false false },
           { dst := some 29, op := .callP (.lit (.fn (I 106) [])) [(.slot 28)] false false },
           { dst := some 25, op := .mv (.take 29) },
           { dst := some 30, op := .extr 25 0 },
           { dst := some 31, op := .extr 25 1 },
           { dst := some 10, op := .mv (.slot 30) },
           { dst := some 11, op := .mv (.slot 31) }])
        (.seq (.reg false [
            { dst := some 33, op := .mv (.slot 9) },
            { dst := some 34, op := .mv (.slot 11) },
            { dst := some 35, op := .callP (.lit (.fn (I 108) [])) [(.slot 33), (.slot 34)] false false },
            { dst := some 32, op := .mv (.take 35) },
            { dst := some 36, op := .extr 32 0 },
            { dst := some 37, op := .extr 32 1 },
            { dst := some 9, op := .mv (.slot 36) }])
         (.seq (.reg false [
             { dst := some 39, op := .mv (.slot 7) },
             { dst := some 40, op := .mv (.slot 11) },
             { dst := some 41, op := .callP (.lit (.fn (I 108) [])) [(.slot 39), (.slot 40)] false false },
             { dst := some 38, op := .mv (.take 41) },
             { dst := some 42, op := .extr 38 0 },
             { dst := some 43, op := .extr 38 1 },
             { dst := some 7, op := .mv (.slot 42) }])
          (.seq (.reg false [
              { dst := some 44, op := .mv (.slot 8) },
              { dst := some 45, op := .mv (.slot 6) },
              { dst := some 46, op := .eqb true (.slot 44) (.slot 45) },
              { dst := some 47, op := .mv (.slot 9) },
              { dst := some 48, op := .callP (.lit (.fn (I 109) [])) [(.slot 46), (.slot 47)] false false },
              { dst := some 49, op := .mv (.slot 7) },
              { dst := some 50, op := .callP (.lit (.fn (I 109) [])) [(.lit (.bool false)), (.slot 49)] false false },
              { dst := some 4, op := .mv (.slot 48) },
              { dst := some 5, op := .mv (.slot 50) }])
           (.ret))))))))
  res := [.tmp 4, .tmp 5]
  keepOwn := false

def F106_0 (I J : Nat → Nat) : AC :=
  .seq (.seq (.reg false [
        { dst := some 22, op := .mv (.slot 7) },
        { dst := some 23, op := .mv (.slot 5) },
        { dst := some 24, op := .bin .geq (.slot 22) (.slot 23) }])
     (.cond (.slot 24)
      (.skip)
      (.exit 0)))
    (.seq (.block 1 (.reg false [
         { dst := some 27, op := .mv (.take 6) },
         { dst := some 28, op := .mv (.slot 0) },
         { dst := some 29, op := .mv (.slot 7) },
         { dst := some 30, op := .idxS (.slot 28) (.slot 29) },
         { dst := some 31, op := .bin .sub (.slot 30) (.lit (.int .u8 48)) },
         { dst := some 32, op := .conv .i64 (.slot 31) },
         { dst := some 33, op := .lits false 1 [(.slot 32)] },
         { dst := some 34, op := .app false false 1 (.take 27) (.slot 33) },
         { dst := some 6, op := .mv (.take 34) }]))
     (.reg false [
        { dst := some 25, op := .mv (.slot 7) },
        { dst := some 26, op := .bin .sub (.slot 25) (.lit (.int .i64 1)) },
        { dst := some 7, op := .mv (.slot 26) }]))
/-- lispprover/lispproverref1.digits -/
def F106 (I J : Nat → Nat) : AFunc where
  code := .seq (.reg false [
       { dst := some 2, op := .mv (.lit (.bool false)) },
       { dst := some 3, op := .mv (.lit (.slice [])) }])
    (.seq (.seq (.reg false [
         { dst := some 8, op := .mv (.slot 0) },
         { dst := some 9, op := .callP (.lit (.fn (I 126) [])) [(.slot 8)] false false },
         { dst := some 10, op := .un .not (.slot 9) },
         { dst := some 11, op := .mv (.slot 10) },
         { dst := some 12, op := .mv (.slot 0), guard := some (11, false) },
         { dst := some 13, op := .bin .eql (.slot 12) (.lit (.str [48])), guard := some (11, false) },
         { dst := some 14, op := .pick (.slot 11) (.lit (.bool true)) (.slot 13) }])
      (.cond (.slot 14)
       (.seq (.reg false [
           { dst := some 2, op := .mv (.lit (.bool false)) },
           { dst := some 3, op := .mv (.lit (.slice [])) }])
        (.ret))
       (.skip)))
     (.seq (.reg false [
         { dst := some 15, op := .mv (.slot 0) },
         { dst := some 16, op := .idxS (.slot 15) (.lit (.int .i64 0)) },
         { dst := some 17, op := .bin .eql (.slot 16) (.lit (.int .u8 45)) },
         { dst := some 4, op := .mv (.slot 17) }])
      (.seq (.reg false [
          { dst := some 5, op := .mv (.lit (.int .i64 0)) }])
       (.seq (.seq (.reg false [
            { dst := some 18, op := .mv (.slot 4) }])
         (.cond (.slot 18)
          (.reg false [
             { dst := some 5, op := .mv (.lit (.int .i64 1)) }])
          (.skip)))
        (.seq (.reg false [
            { dst := some 6, op := .mv (.lit (.onil)) }])
         (.seq (.seq (.reg false [
              { dst := some 19, op := .mv (.slot 0) },
              { dst := some 20, op := .lenS (.slot 19) },
              { dst := some 21, op := .bin .sub (.slot 20) (.lit (.int .i64 1)) },
              { dst := some 7, op := .mv (.slot 21) }])
           (.block 0 (.loop [0, 4, 5, 6, 7] [] (F106_0 I J))))
          (.seq (.reg false [
              { dst := some 35, op := .mv (.slot 4) },
              { dst := some 36, op := .mv (.slot 6) },
              { dst := some 2, op := .mv (.slot 35) },
              { dst := some 3, op := .mv (.slot 36) }])
           (.ret))))))))
  res := [.tmp 2, .tmp 3]
  keepOwn := false

def F107_0 (I J : Nat → Nat) : AC :=
  .seq (.seq (.reg false [
        { dst := some 21, op := .mv (.slot 8) },
        { dst := some 22, op := .lenL (.slot 21) },
        { dst := some 23, op := .bin .gtr (.slot 22) (.lit (.int .i64 0)) }])
     (.cond (.slot 23)
      (.skip)
      (.exit 0)))
    (.block 1 (.seq (.reg false [
         { dst := some 25, op := .mv (.slot 6) },
         { dst := some 26, op := .mv (.slot 8) },
         { dst := some 27, op := .callP (.lit (.fn (I 108) [])) [(.slot 25), (.slot 26)] false false },
         { dst := some 24, op := .mv (.take 27) },
         { dst := some 28, op := .extr 24 0 },
         { dst := some 29, op := .extr 24 1 },
         { dst := some 9, op := .mv (.slot 28) },
         { dst := some 10, op := .mv (.slot 29) }])
      (.reg false [
         { dst := some 30, op := .mv (.slot 8) },
         { dst := some 31, op := .mv (.slot 10) },
         { dst := some 6, op := .mv (.slot 30) },
         { dst := some 8, op := .mv (.slot 31) }])))
/-- lispprover/lispproverref1.Gcd -/
def F107 (I J : Nat → Nat) : AFunc where
  code := .seq (.reg false [
       { dst := some 4, op := .mv (.lit (.str [])) }])
    (.seq (.reg false [
        { dst := some 12, op := .mv (.slot 0) },
        { dst := some 13, op := .callP (.lit (.fn (I 106) [])) [(.slot 12)] false false },
        { dst := some 11, op := .mv (.take 13) },
        { dst := some 14, op := .extr 11 0 },
        { dst := some 15, op := .extr 11 1 },
        { dst := some 5, op := .mv (.slot 14) },
        { dst := some 6, op := .mv (.slot 15) }])
     (.seq (.reg false [
         { dst := some 17, op := .mv (.slot 1) },
         { dst := some 18, op := .callP (.lit (.fn (I 106) [])) [(.slot 17)] false false },
         { dst := some 16, op := .mv (.take 18) },
         { dst := some 19, op := .extr 16 0 },
         { dst := some 20, op := .extr 16 1 },
         { dst := some 7, op := .mv (.slot 19) },
         { dst := some 8, op := .mv (.slot 20) }])
      (.seq (.block 0 (.loop [6, 8] [] (F107_0 I J)))
       (.seq (.reg false [
           { dst := some 32, op := .mv (.slot 6) },
           { dst := some 33, op := .callP (.lit (.fn (I 109) [])) [(.lit (.bool false)), (.slot 32)] false false },
           { dst := some 4, op := .mv (.slot 33) }])
        (.ret)))))
  res := [.tmp 4]
  keepOwn := false

def F108_0 (I J : Nat → Nat) : AC :=
  .seq (.seq (.reg false [
        { dst := some 27, op := .mv (.slot 7) },
        { dst := some 28, op := .mv (.slot 1) },
        { dst := some 29, op := .callP (.lit (.fn (I 128) [])) [(.slot 27), (.slot 28)] false false },
        { dst := some 30, op := .bin .geq (.slot 29) (.lit (.int .i64 0)) }])
     (.cond (.slot 30)
      (.skip)
      (.exit 2)))
    (.block 3 (.seq (.reg false [
         { dst := some 31, op := .mv (.slot 7) },
         { dst := some 32, op := .mv (.slot 1) },
         { dst := some 33, op := .callP (.lit (.fn (I 129) [])) [(.slot 31), (.slot 32)] false false },
         { dst := some 7, op := .mv (.slot 33) }])
      (.reg false [
         { dst := some 34, op := .mv (.slot 6) },
         { dst := some 35, op := .mv (.slot 8) },
         { dst := some 36, op := .iaddr 1 (.slot 34) (.slot 35) },
         { dst := some 37, op := .load1 (.slot 36) },
         { dst := some 38, op := .bin .add (.slot 37) (.lit (.int .i64 1)) },
         { dst := some 39, op := .iaddr 1 (.slot 34) (.slot 35) },
         { dst := none, op := .store1 (.slot 39) (.slot 38) }])))
def F108_1 (I J : Nat → Nat) : AC :=
  .seq (.seq (.reg false [
        { dst := some 15, op := .mv (.slot 8) },
        { dst := some 16, op := .bin .geq (.slot 15) (.lit (.int .i64 0)) }])
     (.cond (.slot 16)
      (.skip)
      (.exit 0)))
    (.seq (.block 1 (.seq (.reg false [
          { dst := some 19, op := .mv (.slot 0) },
          { dst := some 20, op := .mv (.slot 8) },
          { dst := some 21, op := .iaddr 1 (.slot 19) (.slot 20) },
          { dst := some 22, op := .load1 (.slot 21) },
          { dst := some 23, op := .lits false 1 [(.slot 22)] },
          { dst := some 24, op := .mv (.slot 7) },
          { dst := some 25, op := .app false false 1 (.take 23) (.slot 24) },
          { dst := some 26, op := .callP (.lit (.fn (I 127) [])) [(.slot 25)] false false },
          { dst := some 7, op := .mv (.slot 26) }])
       (.block 2 (.loop [0, 1, 6, 7, 8] [6, 11] (F108_0 I J)))))
     (.reg false [
        { dst := some 17, op := .mv (.slot 8) },
        { dst := some 18, op := .bin .sub (.slot 17) (.lit (.int .i64 1)) },
        { dst := some 8, op := .mv (.slot 18) }]))
/-- lispprover/lispproverref1.over -/
def F108 (I J : Nat → Nat) : AFunc where
  code := .seq (.reg false [
       { dst := some 4, op := .mv (.lit (.slice [])) },
       { dst := some 5, op := .mv (.lit (.slice [])) }])
    (.seq (.reg false [
        { dst := some 9, op := .mv (.slot 0) },
        { dst := some 10, op := .lenL (.slot 9) },
        { dst := some 11, op := .mks true false 1 (.int .i64 0) (.slot 10) (.slot 10) },
        { dst := some 6, op := .mv (.slot 11) }])
     (.seq (.reg false [
         { dst := some 7, op := .mv (.lit (.slice [])) }])
      (.seq (.seq (.reg false [
           { dst := some 12, op := .mv (.slot 0) },
           { dst := some 13, op := .lenL (.slot 12) },
           { dst := some 14, op := .bin .sub (.slot 13) (.lit (.int .i64 1)) },
           { dst := some 8, op := .mv (.slot 14) }])
        (.block 0 (.loop [0, 1, 6, 7, 8] [6, 11] (F108_1 I J))))
       (.seq (.reg false [
           { dst := some 40, op := .frz 11 (.slot 6) },
           { dst := some 41, op := .callP (.lit (.fn (I 127) [])) [(.slot 40)] false false },
           { dst := some 42, op := .mv (.slot 7) },
           { dst := some 4, op := .mv (.slot 41) },
           { dst := some 5, op := .mv (.slot 42) }])
        (.ret)))))
  res := [.tmp 4, .tmp 5]
  keepOwn := false

def F109_0 (I J : Nat → Nat) : AC :=
  .seq (.seq (.reg false [
        { dst := some 19, op := .mv (.slot 6) },
        { dst := some 20, op := .bin .geq (.slot 19) (.lit (.int .i64 0)) }])
     (.cond (.slot 20)
      (.skip)
      (.exit 0)))
    (.seq (.block 1 (.reg false [
         { dst := some 23, op := .mv (.take 5) },
         { dst := some 24, op := .mv (.slot 1) },
         { dst := some 25, op := .mv (.slot 6) },
         { dst := some 26, op := .iaddr 1 (.slot 24) (.slot 25) },
         { dst := some 27, op := .load1 (.slot 26) },
         { dst := some 28, op := .bin .add (.lit (.int .i64 48)) (.slot 27) },
         { dst := some 29, op := .conv .u8 (.slot 28) },
         { dst := some 30, op := .lits false 1 [(.slot 29)] },
         { dst := some 31, op := .app false false 1 (.take 23) (.slot 30) },
         { dst := some 5, op := .mv (.take 31) }]))
     (.reg false [
        { dst := some 21, op := .mv (.slot 6) },
        { dst := some 22, op := .bin .sub (.slot 21) (.lit (.int .i64 1)) },
        { dst := some 6, op := .mv (.slot 22) }]))
/-- lispprover/lispproverref1.text -/
def F109 (I J : Nat → Nat) : AFunc where
  code := .seq (.reg false [
       { dst := some 4, op := .mv (.lit (.str [])) }])
    (.seq (.reg false [
        { dst := some 7, op := .mv (.slot 1) },
        { dst := some 8, op := .callP (.lit (.fn (I 127) [])) [(.slot 7)] false false },
        { dst := some 1, op := .mv (.slot 8) }])
     (.seq (.seq (.reg false [
          { dst := some 9, op := .mv (.slot 1) },
          { dst := some 10, op := .lenL (.slot 9) },
          { dst := some 11, op := .bin .eql (.slot 10) (.lit (.int .i64 0)) }])
       (.cond (.slot 11)
        (.seq (.reg false [
            { dst := some 4, op := .mv (.lit (.str [48])) }])
         (.ret))
        (.skip)))
      (.seq (.reg false [
          { dst := some 5, op := .mv (.lit (.onil)) }])
       (.seq (.seq (.reg false [
            { dst := some 12, op := .mv (.slot 0) }])
         (.cond (.slot 12)
          (.reg false [
             { dst := some 13, op := .mv (.take 5) },
             { dst := some 14, op := .lits false 1 [(.lit (.int .u8 45))] },
             { dst := some 15, op := .app false false 1 (.take 13) (.slot 14) },
             { dst := some 5, op := .mv (.take 15) }])
          (.skip)))
        (.seq (.seq (.reg false [
             { dst := some 16, op := .mv (.slot 1) },
             { dst := some 17, op := .lenL (.slot 16) },
             { dst := some 18, op := .bin .sub (.slot 17) (.lit (.int .i64 1)) },
             { dst := some 6, op := .mv (.slot 18) }])
          (.block 0 (.loop [1, 5, 6] [] (F109_0 I J))))
         (.seq (.reg false [
             { dst := some 32, op := .mv (.slot 5) },
             { dst := some 33, op := .toStr (.slot 32) },
             { dst := some 4, op := .mv (.slot 33) }])
          (.ret)))))))
  res := [.tmp 4]
  keepOwn := false

def F126_0 (I J : Nat → Nat) : AC :=
  .seq (.seq (.reg false [
        { dst := some 26, op := .mv (.slot 4) },
        { dst := some 27, op := .mv (.slot 0) },
        { dst := some 28, op := .lenS (.slot 27) },
        { dst := some 29, op := .bin .lss (.slot 26) (.slot 28) }])
     (.cond (.slot 29)
      (.skip)
      (.exit 0)))
    (.seq (.block 1 (.seq (.reg false [
          { dst := some 32, op := .mv (.slot 0) },
          { dst := some 33, op := .mv (.slot 4) },
          { dst := some 34, op := .idxS (.slot 32) (.slot 33) },
          { dst := some 35, op := .bin .lss (.slot 34) (.lit (.int .u8 48)) },
          { dst := some 36, op := .mv (.slot 35) },
          { dst := some 37, op := .mv (.slot 0), guard := some (36, false) },
          { dst := some 38, op := .mv (.slot 4), guard := some (36, false) },
          { dst := some 39, op := .idxS (.slot 37) (.slot 38), guard := some (36, false) },
          { dst := some 40, op := .bin .gtr (.slot 39) (.lit (.int .u8 57)), guard := some (36, false) },
          { dst := some 41, op := .pick (.slot 36) (.lit (.bool true)) (.slot 40) }])
       (.cond (.slot 41)
        (.seq (.reg false [
            { dst := some 2, op := .mv (.lit (.bool false)) }])
         (.ret))
        (.skip))))
     (.reg false [
        { dst := some 30, op := .mv (.slot 4) },
        { dst := some 31, op := .bin .add (.slot 30) (.lit (.int .i64 1)) },
        { dst := some 4, op := .mv (.slot 31) }]))
/-- lispprover/lispproverref1.Valid -/
def F126 (I J : Nat → Nat) : AFunc where
  code := .seq (.reg false [
       { dst := some 2, op := .mv (.lit (.bool false)) }])
    (.seq (.seq (.reg false [
         { dst := some 5, op := .mv (.slot 0) },
         { dst := some 6, op := .bin .eql (.slot 5) (.lit (.str [48])) }])
      (.cond (.slot 6)
       (.seq (.reg false [
           { dst := some 2, op := .mv (.lit (.bool true)) }])
        (.ret))
       (.skip)))
     (.seq (.reg false [
         { dst := some 3, op := .mv (.lit (.int .i64 0)) }])
      (.seq (.seq (.reg false [
           { dst := some 7, op := .mv (.slot 0) },
           { dst := some 8, op := .lenS (.slot 7) },
           { dst := some 9, op := .bin .gtr (.slot 8) (.lit (.int .i64 0)) },
           { dst := some 10, op := .mv (.slot 9) },
           { dst := some 11, op := .mv (.slot 0), guard := some (10, true) },
           { dst := some 12, op := .idxS (.slot 11) (.lit (.int .i64 0)), guard := some (10, true) },
           { dst := some 13, op := .bin .eql (.slot 12) (.lit (.int .u8 45)), guard := some (10, true) },
           { dst := some 14, op := .pick (.slot 10) (.slot 13) (.lit (.bool false)) }])
        (.cond (.slot 14)
         (.reg false [
            { dst := some 3, op := .mv (.lit (.int .i64 1)) }])
         (.skip)))
       (.seq (.seq (.reg false [
            { dst := some 15, op := .mv (.slot 0) },
            { dst := some 16, op := .lenS (.slot 15) },
            { dst := some 17, op := .mv (.slot 3) },
            { dst := some 18, op := .bin .leq (.slot 16) (.slot 17) },
            { dst := some 19, op := .mv (.slot 18) },
            { dst := some 20, op := .mv (.slot 0), guard := some (19, false) },
            { dst := some 21, op := .mv (.slot 3), guard := some (19, false) },
            { dst := some 22, op := .idxS (.slot 20) (.slot 21), guard := some (19, false) },
            { dst := some 23, op := .bin .eql (.slot 22) (.lit (.int .u8 48)), guard := some (19, false) },
            { dst := some 24, op := .pick (.slot 19) (.lit (.bool true)) (.slot 23) }])
         (.cond (.slot 24)
          (.seq (.reg false [
              { dst := some 2, op := .mv (.lit (.bool false)) }])
           (.ret))
          (.skip)))
        (.seq (.seq (.reg false [
             { dst := some 25, op := .mv (.slot 3) },
             { dst := some 4, op := .mv (.slot 25) }])
          (.block 0 (.loop [0, 4] [] (F126_0 I J))))
         (.seq (.reg false [
             { dst := some 2, op := .mv (.lit (.bool true)) }])
          (.ret)))))))
  res := [.tmp 2]
  keepOwn := false

def F127_0 (I J : Nat → Nat) : AC :=
  .seq (.seq (.reg false [
        { dst := some 6, op := .mv (.slot 3) },
        { dst := some 7, op := .bin .gtr (.slot 6) (.lit (.int .i64 0)) },
        { dst := some 8, op := .mv (.slot 7) },
        { dst := some 9, op := .mv (.slot 0), guard := some (8, true) },
        { dst := some 10, op := .mv (.slot 3), guard := some (8, true) },
        { dst := some 11, op := .bin .sub (.slot 10) (.lit (.int .i64 1)), guard := some (8, true) },
        { dst := some 12, op := .iaddr 1 (.slot 9) (.slot 11), guard := some (8, true) },
        { dst := some 13, op := .load1 (.slot 12), guard := some (8, true) },
        { dst := some 14, op := .bin .eql (.slot 13) (.lit (.int .i64 0)), guard := some (8, true) },
        { dst := some 15, op := .pick (.slot 8) (.slot 14) (.lit (.bool false)) }])
     (.cond (.slot 15)
      (.skip)
      (.exit 0)))
    (.block 1 (.reg false [
        { dst := some 16, op := .mv (.slot 3) },
        { dst := some 17, op := .bin .sub (.slot 16) (.lit (.int .i64 1)) },
        { dst := some 3, op := .mv (.slot 17) }]))
/-- lispprover/lispproverref1.trim -/
def F127 (I J : Nat → Nat) : AFunc where
  code := .seq (.reg false [
       { dst := some 2, op := .mv (.lit (.slice [])) }])
    (.seq (.reg false [
        { dst := some 4, op := .mv (.slot 0) },
        { dst := some 5, op := .lenL (.slot 4) },
        { dst := some 3, op := .mv (.slot 5) }])
     (.seq (.block 0 (.loop [0, 3] [] (F127_0 I J)))
      (.seq (.reg false [
          { dst := some 18, op := .mv (.slot 0) },
          { dst := some 19, op := .mv (.slot 3) },
          { dst := some 20, op := .slcL 1 (.slot 18) none (some (.slot 19)) },
          { dst := some 2, op := .mv (.slot 20) }])
       (.ret))))
  res := [.tmp 2]
  keepOwn := false

def F128_0 (I J : Nat → Nat) : AC :=
  .seq (.seq (.reg false [
        { dst := some 19, op := .mv (.slot 5) },
        { dst := some 20, op := .bin .geq (.slot 19) (.lit (.int .i64 0)) }])
     (.cond (.slot 20)
      (.skip)
      (.exit 0)))
    (.seq (.block 1 (.seq (.seq (.reg true [
           { dst := some 23, op := .mv (.slot 0) },
           { dst := some 24, op := .mv (.slot 5) },
           { dst := some 25, op := .iaddr 1 (.slot 23) (.slot 24) },
           { dst := some 26, op := .load1 (.slot 25) },
           { dst := some 27, op := .mv (.slot 1) },
           { dst := some 28, op := .mv (.slot 5) },
           { dst := some 29, op := .iaddr 1 (.slot 27) (.slot 28) },
           { dst := some 30, op := .load1 (.slot 29) },
           { dst := some 31, op := .bin .lss (.slot 26) (.slot 30) }])
        (.cond (.slot 31)
         (.seq (.reg false [
             { dst := some 4, op := .mv (.lit (.int .i64 (-1))) }])
          (.ret))
         (.skip)))
       (.seq (.reg true [
           { dst := some 32, op := .mv (.slot 0) },
           { dst := some 33, op := .mv (.slot 5) },
           { dst := some 34, op := .iaddr 1 (.slot 32) (.slot 33) },
           { dst := some 35, op := .load1 (.slot 34) },
           { dst := some 36, op := .mv (.slot 1) },
           { dst := some 37, op := .mv (.slot 5) },
           { dst := some 38, op := .iaddr 1 (.slot 36) (.slot 37) },
           { dst := some 39, op := .load1 (.slot 38) },
           { dst := some 40, op := .bin .gtr (.slot 35) (.slot 39) }])
        (.cond (.slot 40)
         (.seq (.reg false [
             { dst := some 4, op := .mv (.lit (.int .i64 1)) }])
          (.ret))
         (.skip)))))
     (.reg false [
        { dst := some 21, op := .mv (.slot 5) },
        { dst := some 22, op := .bin .sub (.slot 21) (.lit (.int .i64 1)) },
        { dst := some 5, op := .mv (.slot 22) }]))
/-- lispprover/lispproverref1.order -/
def F128 (I J : Nat → Nat) : AFunc where
  code := .seq (.reg false [
       { dst := some 4, op := .mv (.lit (.int .i64 0)) }])
    (.seq (.seq (.reg false [
         { dst := some 6, op := .mv (.slot 0) },
         { dst := some 7, op := .lenL (.slot 6) },
         { dst := some 8, op := .mv (.slot 1) },
         { dst := some 9, op := .lenL (.slot 8) },
         { dst := some 10, op := .bin .neq (.slot 7) (.slot 9) }])
      (.cond (.slot 10)
       (.seq (.seq (.reg false [
            { dst := some 11, op := .mv (.slot 0) },
            { dst := some 12, op := .lenL (.slot 11) },
            { dst := some 13, op := .mv (.slot 1) },
            { dst := some 14, op := .lenL (.slot 13) },
            { dst := some 15, op := .bin .lss (.slot 12) (.slot 14) }])
         (.cond (.slot 15)
          (.seq (.reg false [
              { dst := some 4, op := .mv (.lit (.int .i64 (-1))) }])
           (.ret))
          (.skip)))
        (.seq (.reg false [
            { dst := some 4, op := .mv (.lit (.int .i64 1)) }])
         (.ret)))
       (.skip)))
     (.seq (.seq (.reg false [
          { dst := some 16, op := .mv (.slot 0) },
          { dst := some 17, op := .lenL (.slot 16) },
          { dst := some 18, op := .bin .sub (.slot 17) (.lit (.int .i64 1)) },
          { dst := some 5, op := .mv (.slot 18) }])
       (.block 0 (.loop [0, 1, 5] [] (F128_0 I J))))
      (.seq (.reg false [
          { dst := some 4, op := .mv (.lit (.int .i64 0)) }])
       (.ret))))
  res := [.tmp 4]
  keepOwn := false

def F129_0 (I J : Nat → Nat) : AC :=
  .seq (.seq (.reg false [
        { dst := some 9, op := .mv (.slot 7) },
        { dst := some 10, op := .mv (.slot 0) },
        { dst := some 11, op := .lenL (.slot 10) },
        { dst := some 12, op := .bin .lss (.slot 9) (.slot 11) }])
     (.cond (.slot 12)
      (.skip)
      (.exit 0)))
    (.seq (.block 1 (.seq (.reg false [
          { dst := some 15, op := .mv (.slot 0) },
          { dst := some 16, op := .mv (.slot 7) },
          { dst := some 17, op := .iaddr 1 (.slot 15) (.slot 16) },
          { dst := some 18, op := .load1 (.slot 17) },
          { dst := some 19, op := .mv (.slot 6) },
          { dst := some 20, op := .bin .sub (.slot 18) (.slot 19) },
          { dst := some 8, op := .mv (.slot 20) }])
       (.seq (.seq (.reg false [
            { dst := some 21, op := .mv (.slot 7) },
            { dst := some 22, op := .mv (.slot 1) },
            { dst := some 23, op := .lenL (.slot 22) },
            { dst := some 24, op := .bin .lss (.slot 21) (.slot 23) }])
         (.cond (.slot 24)
          (.reg false [
             { dst := some 25, op := .mv (.slot 8) },
             { dst := some 26, op := .mv (.slot 1) },
             { dst := some 27, op := .mv (.slot 7) },
             { dst := some 28, op := .iaddr 1 (.slot 26) (.slot 27) },
             { dst := some 29, op := .load1 (.slot 28) },
             { dst := some 30, op := .bin .sub (.slot 25) (.slot 29) },
             { dst := some 8, op := .mv (.slot 30) }])
          (.skip)))
        (.seq (.reg false [
            { dst := some 6, op := .mv (.lit (.int .i64 0)) }])
         (.seq (.seq (.reg false [
              { dst := some 31, op := .mv (.slot 8) },
              { dst := some 32, op := .bin .lss (.slot 31) (.lit (.int .i64 0)) }])
           (.cond (.slot 32)
            (.seq (.reg false [
                { dst := some 33, op := .mv (.slot 8) },
                { dst := some 34, op := .bin .add (.slot 33) (.lit (.int .i64 10)) },
                { dst := some 8, op := .mv (.slot 34) }])
             (.reg false [
                { dst := some 6, op := .mv (.lit (.int .i64 1)) }]))
            (.skip)))
          (.reg false [
             { dst := some 35, op := .mv (.take 5) },
             { dst := some 36, op := .mv (.slot 8) },
             { dst := some 37, op := .lits false 1 [(.slot 36)] },
             { dst := some 38, op := .app false false 1 (.take 35) (.slot 37) },
             { dst := some 5, op := .mv (.take 38) }]))))))
     (.reg false [
        { dst := some 13, op := .mv (.slot 7) },
        { dst := some 14, op := .bin .add (.slot 13) (.lit (.int .i64 1)) },
        { dst := some 7, op := .mv (.slot 14) }]))
/-- lispprover/lispproverref1.minus -/
def F129 (I J : Nat → Nat) : AFunc where
  code := .seq (.reg false [
       { dst := some 4, op := .mv (.lit (.slice [])) }])
    (.seq (.reg false [
        { dst := some 5, op := .mv (.lit (.onil)) }])
     (.seq (.reg false [
         { dst := some 6, op := .mv (.lit (.int .i64 0)) }])
      (.seq (.seq (.reg false [
           { dst := some 7, op := .mv (.lit (.int .i64 0)) }])
        (.block 0 (.loop [0, 1, 5, 6, 7] [] (F129_0 I J))))
       (.seq (.reg false [
           { dst := some 39, op := .mv (.slot 5) },
           { dst := some 40, op := .callP (.lit (.fn (I 127) [])) [(.slot 39)] false false },
           { dst := some 4, op := .mv (.slot 40) }])
        (.ret)))))
  res := [.tmp 4]
  keepOwn := false

/-- lispprover/lispproverref1.Digits -/
def F142 (I J : Nat → Nat) : AFunc where
  code := .seq (.reg false [
       { dst := some 2, op := .mv (.lit (.int .i64 0)) }])
    (.seq (.reg false [
        { dst := some 6, op := .mv (.slot 0) },
        { dst := some 7, op := .callP (.lit (.fn (I 106) [])) [(.slot 6)] false false },
        { dst := some 5, op := .mv (.take 7) },
        { dst := some 8, op := .extr 5 0 },
        { dst := some 9, op := .extr 5 1 },
        { dst := some 3, op := .mv (.slot 8) },
        { dst := some 4, op := .mv (.slot 9) }])
     (.seq (.reg false [
         { dst := some 10, op := .mv (.slot 4) },
         { dst := some 11, op := .lenL (.slot 10) },
         { dst := some 12, op := .mx (.lit (.int .i64 1)) (.slot 11) },
         { dst := some 2, op := .mv (.slot 12) }])
      (.ret)))
  res := [.tmp 2]
  keepOwn := false

end Go.Vs.C

namespace Go.Vs.C
open Go Go.Vs
set_option maxRecDepth 100000
set_option linter.unusedVariables false
def F46_0 (I J : Nat → Nat) : AC :=
  .seq (.seq (.reg false [
        { dst := some 48, op := .mv (.slot 5) },
        { dst := some 49, op := .faddr 6 (.slot 2) },
        { dst := some 50, op := .load1 (.slot 49) },
        { dst := some 51, op := .lenL (.slot 50) },
        { dst := some 52, op := .bin .lss (.slot 48) (.slot 51) }])
     (.cond (.slot 52)
      (.skip)
      (.exit 0)))
    (.seq (.block 1 (.seq (.reg true [
          { dst := some 55, op := .faddr 6 (.slot 2) },
          { dst := some 56, op := .load1 (.slot 55) },
          { dst := some 57, op := .mv (.slot 5) },
          { dst := some 58, op := .iaddr 7 (.slot 56) (.slot 57) },
          { dst := some 59, op := .loadA 7 (.slot 58) },
          { dst := some 60, op := .faddr 6 (.slot 3) },
          { dst := some 61, op := .load1 (.slot 60) },
          { dst := some 62, op := .mv (.slot 5) },
          { dst := some 63, op := .iaddr 7 (.slot 61) (.slot 62) },
          { dst := some 64, op := .loadA 7 (.slot 63) },
          { dst := some 65, op := .callP (.lit (.fn (I 46) [])) [(.slot 59), (.slot 64)] false false },
          { dst := some 66, op := .un .not (.slot 65) }])
       (.cond (.slot 66)
        (.seq (.reg false [
            { dst := some 4, op := .mv (.lit (.bool false)) }])
         (.ret))
        (.skip))))
     (.reg false [
        { dst := some 53, op := .mv (.slot 5) },
        { dst := some 54, op := .bin .add (.slot 53) (.lit (.int .i64 1)) },
        { dst := some 5, op := .mv (.slot 54) }]))
/-- lispprover/lispproverref2.Equal -/
def F46 (I J : Nat → Nat) : AFunc where
  code := .seq (.reg false [
       { dst := some 2, op := .box (.slot 0) },
       { dst := some 3, op := .box (.slot 1) },
       { dst := some 4, op := .mv (.lit (.bool false)) }])
    (.seq (.seq (.reg false [
         { dst := some 6, op := .faddr 0 (.slot 2) },
         { dst := some 7, op := .load1 (.slot 6) },
         { dst := some 8, op := .faddr 0 (.slot 3) },
         { dst := some 9, op := .load1 (.slot 8) },
         { dst := some 10, op := .bin .neq (.slot 7) (.slot 9) },
         { dst := some 11, op := .mv (.slot 10) },
         { dst := some 12, op := .faddr 1 (.slot 2), guard := some (11, false) },
         { dst := some 13, op := .load1 (.slot 12), guard := some (11, false) },
         { dst := some 14, op := .faddr 1 (.slot 3), guard := some (11, false) },
         { dst := some 15, op := .load1 (.slot 14), guard := some (11, false) },
         { dst := some 16, op := .bin .neq (.slot 13) (.slot 15), guard := some (11, false) },
         { dst := some 17, op := .pick (.slot 11) (.lit (.bool true)) (.slot 16) },
         { dst := some 18, op := .mv (.slot 17) },
         { dst := some 19, op := .faddr 2 (.slot 2), guard := some (18, false) },
         { dst := some 20, op := .load1 (.slot 19), guard := some (18, false) },
         { dst := some 21, op := .faddr 2 (.slot 3), guard := some (18, false) },
         { dst := some 22, op := .load1 (.slot 21), guard := some (18, false) },
         { dst := some 23, op := .bin .neq (.slot 20) (.slot 22), guard := some (18, false) },
         { dst := some 24, op := .pick (.slot 18) (.lit (.bool true)) (.slot 23) },
         { dst := some 25, op := .mv (.slot 24) },
         { dst := some 26, op := .faddr 3 (.slot 2), guard := some (25, false) },
         { dst := some 27, op := .loadA 2 (.slot 26), guard := some (25, false) },
         { dst := some 28, op := .faddr 3 (.slot 3), guard := some (25, false) },
         { dst := some 29, op := .loadA 2 (.slot 28), guard := some (25, false) },
         { dst := some 30, op := .eqA true [0, 0] (.slot 27) (.slot 29), guard := some (25, false) },
         { dst := some 31, op := .pick (.slot 25) (.lit (.bool true)) (.slot 30) },
         { dst := some 32, op := .mv (.slot 31) },
         { dst := some 33, op := .faddr 5 (.slot 2), guard := some (32, false) },
         { dst := some 34, op := .load1 (.slot 33), guard := some (32, false) },
         { dst := some 35, op := .faddr 5 (.slot 3), guard := some (32, false) },
         { dst := some 36, op := .load1 (.slot 35), guard := some (32, false) },
         { dst := some 37, op := .bin .neq (.slot 34) (.slot 36), guard := some (32, false) },
         { dst := some 38, op := .pick (.slot 32) (.lit (.bool true)) (.slot 37) },
         { dst := some 39, op := .mv (.slot 38) },
         { dst := some 40, op := .faddr 6 (.slot 2), guard := some (39, false) },
         { dst := some 41, op := .load1 (.slot 40), guard := some (39, false) },
         { dst := some 42, op := .lenL (.slot 41), guard := some (39, false) },
         { dst := some 43, op := .faddr 6 (.slot 3), guard := some (39, false) },
         { dst := some 44, op := .load1 (.slot 43), guard := some (39, false) },
         { dst := some 45, op := .lenL (.slot 44), guard := some (39, false) },
         { dst := some 46, op := .bin .neq (.slot 42) (.slot 45), guard := some (39, false) },
         { dst := some 47, op := .pick (.slot 39) (.lit (.bool true)) (.slot 46) }])
      (.cond (.slot 47)
       (.seq (.reg false [
           { dst := some 4, op := .mv (.lit (.bool false)) }])
        (.ret))
       (.skip)))
     (.seq (.seq (.reg false [
          { dst := some 5, op := .mv (.lit (.int .i64 0)) }])
       (.block 0 (.loop [2, 3, 5] [2, 3] (F46_0 I J))))
      (.seq (.reg false [
          { dst := some 4, op := .mv (.lit (.bool true)) }])
       (.ret))))
  res := [.tmp 4]
  keepOwn := false

/-- lispprover/lispproverref2.Int -/
def F64 (I J : Nat → Nat) : AFunc where
  code := .seq (.reg false [
       { dst := some 2, op := .alloc [.int .i64 0, .str [], .str [], .str [], .str [], .str [], .slice []] }])
    (.seq (.reg false [
        { dst := some 3, op := .mv (.slot 0) },
        { dst := some 4, op := .callP (.lit (.fn (I 65) [])) [(.slot 3)] false false },
        { dst := some 5, op := .callP (.lit (.fn (I 66) [])) [(.slot 4), (.lit (.str [49]))] false false },
        { dst := none, op := .storeA 7 (.slot 2) (.slot 5) }])
     (.ret))
  res := [.cell 2 7 true]
  keepOwn := false

/-- lispprover/lispproverref2.Rational -/
def F66 (I J : Nat → Nat) : AFunc where
  code := .seq (.reg false [
       { dst := some 4, op := .alloc [.int .i64 0, .str [], .str [], .str [], .str [], .str [], .slice []] }])
    (.seq (.reg false [
        { dst := some 8, op := .mv (.slot 0) },
        { dst := some 9, op := .mv (.slot 1) },
        { dst := some 10, op := .callP (.lit (.fn (I 89) [])) [(.slot 8), (.slot 9)] false false },
        { dst := some 7, op := .mv (.take 10) },
        { dst := some 11, op := .extr 7 0 },
        { dst := some 12, op := .extr 7 1 },
        { dst := some 5, op := .mv (.slot 11) },
        { dst := some 6, op := .mv (.slot 12) }])
     (.seq (.reg false [
         { dst := some 13, op := .mv (.slot 5) },
         { dst := some 14, op := .mv (.slot 6) },
         { dst := some 15, op := .build [.int .i64 0, .str [], .str [], .str [], .str [], .str [], .slice []] [(0, 1, (.lit (.int .i64 1))), (1, 1, (.slot 13)), (2, 1, (.slot 14))] },
         { dst := none, op := .storeA 7 (.slot 4) (.slot 15) }])
      (.ret)))
  res := [.cell 4 7 true]
  keepOwn := false

/-- lispprover/lispproverref2.Symbol -/
def F68 (I J : Nat → Nat) : AFunc where
  code := .seq (.reg false [
       { dst := some 1, op := .box (.slot 0) },
       { dst := some 2, op := .alloc [.int .i64 0, .str [], .str [], .str [], .str [], .str [], .slice []] }])
    (.seq (.reg false [
        { dst := some 3, op := .loadA 2 (.slot 1) },
        { dst := some 4, op := .build [.int .i64 0, .str [], .str [], .str [], .str [], .str [], .slice []] [(0, 1, (.lit (.int .i64 2))), (3, 2, (.slot 3))] },
        { dst := none, op := .storeA 7 (.slot 2) (.slot 4) }])
     (.ret))
  res := [.cell 2 7 true]
  keepOwn := false

/-- lispprover/lispproverref2.Text -/
def F69 (I J : Nat → Nat) : AFunc where
  code := .seq (.reg false [
       { dst := some 2, op := .alloc [.int .i64 0, .str [], .str [], .str [], .str [], .str [], .slice []] }])
    (.seq (.reg false [
        { dst := some 3, op := .mv (.slot 0) },
        { dst := some 4, op := .build [.int .i64 0, .str [], .str [], .str [], .str [], .str [], .slice []] [(0, 1, (.lit (.int .i64 3))), (5, 1, (.slot 3))] },
        { dst := none, op := .storeA 7 (.slot 2) (.slot 4) }])
     (.ret))
  res := [.cell 2 7 true]
  keepOwn := false

/-- lispprover/lispproverref2.Cons -/
def F71 (I J : Nat → Nat) : AFunc where
  code := .seq (.reg false [
       { dst := some 2, op := .box (.slot 0) },
       { dst := some 3, op := .box (.slot 1) },
       { dst := some 4, op := .alloc [.int .i64 0, .str [], .str [], .str [], .str [], .str [], .slice []] }])
    (.seq (.reg false [
        { dst := some 5, op := .loadA 7 (.slot 2) },
        { dst := some 6, op := .loadA 7 (.slot 3) },
        { dst := some 7, op := .lits false 7 [(.slot 5), (.slot 6)] },
        { dst := some 8, op := .build [.int .i64 0, .str [], .str [], .str [], .str [], .str [], .slice []] [(0, 1, (.lit (.int .i64 4))), (6, 1, (.slot 7))] },
        { dst := none, op := .storeA 7 (.slot 4) (.slot 8) }])
     (.ret))
  res := [.cell 4 7 true]
  keepOwn := false

def F72_0 (I J : Nat → Nat) : AC :=
  .seq (.seq (.reg false [
        { dst := some 9, op := .mv (.slot 4) },
        { dst := some 10, op := .bin .geq (.slot 9) (.lit (.int .i64 0)) }])
     (.cond (.slot 10)
      (.skip)
      (.exit 0)))
    (.seq (.block 1 (.reg true [
         { dst := some 13, op := .mv (.slot 0) },
         { dst := some 14, op := .mv (.slot 4) },
         { dst := some 15, op := .iaddr 7 (.slot 13) (.slot 14) },
         { dst := some 16, op := .ldL 16 (some 7) (.slot 15) },
         { dst := some 17, op := .ldL 3 (some 7) (.slot 3) },
         { dst := some 18, op := .callP (.lit (.fn (I 71) [])) [(.slot 16), (.slot 17)] false false },
         { dst := none, op := .stL 3 (some 7) (.slot 3) (.slot 18) }]))
     (.reg false [
        { dst := some 11, op := .mv (.slot 4) },
        { dst := some 12, op := .bin .sub (.slot 11) (.lit (.int .i64 1)) },
        { dst := some 4, op := .mv (.slot 12) }]))
/-- lispprover/lispproverref2.List -/
def F72 (I J : Nat → Nat) : AFunc where
  code := .seq (.reg false [
       { dst := some 2, op := .alloc [.int .i64 0, .str [], .str [], .str [], .str [], .str [], .slice []] }])
    (.seq (.reg false [
        { dst := some 5, op := .callP (.lit (.fn (I 90) [])) [] false false },
        { dst := some 3, op := .alloc [.int .i64 0, .str [], .str [], .str [], .str [], .str [], .slice []] },
        { dst := none, op := .storeA 7 (.slot 3) (.slot 5) }])
     (.seq (.seq (.reg false [
          { dst := some 6, op := .mv (.slot 0) },
          { dst := some 7, op := .lenL (.slot 6) },
          { dst := some 8, op := .bin .sub (.slot 7) (.lit (.int .i64 1)) },
          { dst := some 4, op := .mv (.slot 8) }])
       (.block 0 (.loop [0, 2, 3, 4] [2, 3] (F72_0 I J))))
      (.seq (.reg false [
          { dst := some 19, op := .loadA 7 (.slot 3) },
          { dst := none, op := .storeA 7 (.slot 2) (.slot 19) }])
       (.ret))))
  res := [.cell 2 7 true]
  keepOwn := false

/-- lispprover/lispproverref2.Lisp -/
def F73 (I J : Nat → Nat) : AFunc where
  code := .seq (.reg false [
       { dst := some 2, op := .alloc [.str [], .str []] }])
    (.seq (.reg false [
        { dst := some 3, op := .mv (.slot 0) },
        { dst := some 4, op := .build [.str [], .str []] [(0, 1, (.lit (.str [108, 105, 115, 112]))), (1, 1, (.slot 3))] },
        { dst := none, op := .storeA 2 (.slot 2) (.slot 4) }])
     (.ret))
  res := [.cell 2 2 true]
  keepOwn := false

/-- lispprover/lispproverref2.Nil -/
def F90 (I J : Nat → Nat) : AFunc where
  code := .seq (.reg false [
       { dst := some 0, op := .alloc [.int .i64 0, .str [], .str [], .str [], .str [], .str [], .slice []] }])
    (.seq (.reg false [
        { dst := some 1, op := .callP (.lit (.fn (I 73) [])) [(.lit (.str [110, 105, 108]))] false false },
        { dst := some 2, op := .callP (.lit (.fn (I 68) [])) [(.slot 1)] false false },
        { dst := none, op := .storeA 7 (.slot 0) (.slot 2) }])
     (.ret))
  res := [.cell 0 7 true]
  keepOwn := false

def F94_0 (I J : Nat → Nat) : AC :=
  .seq (.seq (.reg false [
        { dst := some 5, op := .loadA 7 (.slot 1) },
        { dst := some 6, op := .callP (.lit (.fn (I 116) [])) [(.slot 5)] false false }])
     (.cond (.slot 6)
      (.skip)
      (.exit 0)))
    (.block 1 (.seq (.reg false [
         { dst := some 7, op := .mv (.take 4) },
         { dst := some 8, op := .faddr 6 (.slot 1) },
         { dst := some 9, op := .load1 (.slot 8) },
         { dst := some 10, op := .iaddr 7 (.slot 9) (.lit (.int .i64 0)) },
         { dst := some 11, op := .loadA 7 (.slot 10) },
         { dst := some 12, op := .lits false 7 [(.slot 11)] },
         { dst := some 13, op := .app false false 7 (.take 7) (.slot 12) },
         { dst := some 4, op := .mv (.take 13) }])
      (.reg false [
         { dst := some 14, op := .faddr 6 (.slot 1) },
         { dst := some 15, op := .load1 (.slot 14) },
         { dst := some 16, op := .iaddr 7 (.slot 15) (.lit (.int .i64 1)) },
         { dst := some 17, op := .loadA 7 (.slot 16) },
         { dst := none, op := .storeA 7 (.slot 1) (.slot 17) }])))
/-- lispprover/lispproverref2.Items -/
def F94 (I J : Nat → Nat) : AFunc where
  code := .seq (.reg false [
       { dst := some 1, op := .box (.slot 0) },
       { dst := some 2, op := .mv (.lit (.slice [])) },
       { dst := some 3, op := .mv (.lit (.bool false)) }])
    (.seq (.reg false [
        { dst := some 4, op := .mv (.lit (.onil)) }])
     (.seq (.block 0 (.loop [1, 4] [1] (F94_0 I J)))
      (.seq (.seq (.reg false [
           { dst := some 18, op := .loadA 7 (.slot 1) },
           { dst := some 19, op := .callP (.lit (.fn (I 117) [])) [(.slot 18)] false false },
           { dst := some 20, op := .un .not (.slot 19) }])
        (.cond (.slot 20)
         (.seq (.reg false [
             { dst := some 2, op := .mv (.lit (.slice [])) },
             { dst := some 3, op := .mv (.lit (.bool false)) }])
          (.ret))
         (.skip)))
       (.seq (.reg false [
           { dst := some 21, op := .mv (.slot 4) },
           { dst := some 2, op := .mv (.slot 21) },
           { dst := some 3, op := .mv (.lit (.bool true)) }])
        (.ret)))))
  res := [.tmp 2, .tmp 3]
  keepOwn := false

/-- lispprover/lispproverref2.IsCons -/
def F116 (I J : Nat → Nat) : AFunc where
  code := .seq (.reg false [
       { dst := some 1, op := .box (.slot 0) },
       { dst := some 2, op := .mv (.lit (.bool false)) }])
    (.seq (.reg false [
        { dst := some 3, op := .faddr 0 (.slot 1) },
        { dst := some 4, op := .load1 (.slot 3) },
        { dst := some 5, op := .bin .eql (.slot 4) (.lit (.int .i64 4)) },
        { dst := some 6, op := .mv (.slot 5) },
        { dst := some 7, op := .faddr 6 (.slot 1), guard := some (6, true) },
        { dst := some 8, op := .load1 (.slot 7), guard := some (6, true) },
        { dst := some 9, op := .lenL (.slot 8), guard := some (6, true) },
        { dst := some 10, op := .bin .eql (.slot 9) (.lit (.int .i64 2)), guard := some (6, true) },
        { dst := some 11, op := .pick (.slot 6) (.slot 10) (.lit (.bool false)) },
        { dst := some 2, op := .mv (.slot 11) }])
     (.ret))
  res := [.tmp 2]
  keepOwn := false

/-- lispprover/lispproverref2.IsNil -/
def F117 (I J : Nat → Nat) : AFunc where
  code := .seq (.reg false [
       { dst := some 1, op := .box (.slot 0) },
       { dst := some 2, op := .mv (.lit (.bool false)) }])
    (.seq (.reg true [
        { dst := some 3, op := .loadA 7 (.slot 1) },
        { dst := some 4, op := .callP (.lit (.fn (I 90) [])) [] false false },
        { dst := some 5, op := .callP (.lit (.fn (I 46) [])) [(.slot 3), (.slot 4)] false false },
        { dst := some 2, op := .mv (.slot 5) }])
     (.ret))
  res := [.tmp 2]
  keepOwn := false

/-- lispprover/lispproverref2.Valid -/
def F121 (I J : Nat → Nat) : AFunc where
  code := .seq (.reg false [
       { dst := some 1, op := .box (.slot 0) },
       { dst := some 2, op := .mv (.lit (.bool false)) }])
    (.seq (.reg false [
        { dst := some 3, op := .loadA 7 (.slot 1) },
        { dst := some 4, op := .callP (.lit (.fn (I 133) [])) [(.slot 3)] false false },
        { dst := some 5, op := .bin .leq (.slot 4) (.lit (.int .i64 3000)) },
        { dst := some 6, op := .mv (.slot 5) },
        { dst := some 7, op := .loadA 7 (.slot 1), guard := some (6, true) },
        { dst := some 8, op := .callP (.lit (.fn (I 134) [])) [(.slot 7)] false false, guard := some (6, true) },
        { dst := some 9, op := .pick (.slot 6) (.slot 8) (.lit (.bool false)) },
        { dst := some 2, op := .mv (.slot 9) }])
     (.ret))
  res := [.tmp 2]
  keepOwn := false

/-- lispprover/lispproverref2.Nodes -/
def F133 (I J : Nat → Nat) : AFunc where
  code := .seq (.reg false [
       { dst := some 1, op := .box (.slot 0) },
       { dst := some 2, op := .mv (.lit (.int .i64 0)) }])
    (.seq (.reg false [
        { dst := some 3, op := .loadA 7 (.slot 1) },
        { dst := some 4, op := .callP (.lit (.fn (I 141) [])) [(.slot 3), (.lit (.int .i64 3001))] false false },
        { dst := some 2, op := .mv (.slot 4) }])
     (.ret))
  res := [.tmp 2]
  keepOwn := false

/-- lispprover/lispproverref2.formed -/
def F134 (I J : Nat → Nat) : AFunc where
  code := .seq (.reg false [
       { dst := some 1, op := .box (.slot 0) },
       { dst := some 2, op := .mv (.lit (.bool false)) }])
    (.seq (.reg false [
        { dst := some 6, op := .faddr 3 (.slot 1) },
        { dst := some 7, op := .loadA 2 (.slot 6) },
        { dst := some 8, op := .build [.str [], .str []] [] },
        { dst := some 9, op := .eqA false [0, 0] (.slot 7) (.slot 8) },
        { dst := some 3, op := .mv (.slot 9) }])
     (.seq (.seq (.reg false [
          { dst := some 10, op := .faddr 0 (.slot 1) },
          { dst := some 11, op := .load1 (.slot 10) }])
       (.block 0 (.seq (.reg false [
            { dst := some 13, op := .bin .eql (.slot 11) (.lit (.int .i64 1)) },
            { dst := some 12, op := .mv (.slot 13) }])
         (.cond (.slot 12)
          (.seq (.reg false [
              { dst := some 15, op := .faddr 1 (.slot 1) },
              { dst := some 16, op := .load1 (.slot 15) },
              { dst := some 17, op := .faddr 2 (.slot 1) },
              { dst := some 18, op := .load1 (.slot 17) },
              { dst := some 19, op := .callP (.lit (.fn (I 89) [])) [(.slot 16), (.slot 18)] false false },
              { dst := some 14, op := .mv (.take 19) },
              { dst := some 20, op := .extr 14 0 },
              { dst := some 21, op := .extr 14 1 },
              { dst := some 4, op := .mv (.slot 20) },
              { dst := some 5, op := .mv (.slot 21) }])
           (.seq (.reg false [
               { dst := some 22, op := .mv (.slot 3) },
               { dst := some 23, op := .mv (.slot 22) },
               { dst := some 24, op := .faddr 5 (.slot 1), guard := some (23, true) },
               { dst := some 25, op := .load1 (.slot 24), guard := some (23, true) },
               { dst := some 26, op := .bin .eql (.slot 25) (.lit (.str [])), guard := some (23, true) },
               { dst := some 27, op := .pick (.slot 23) (.slot 26) (.lit (.bool false)) },
               { dst := some 28, op := .mv (.slot 27) },
               { dst := some 29, op := .faddr 6 (.slot 1), guard := some (28, true) },
               { dst := some 30, op := .load1 (.slot 29), guard := some (28, true) },
               { dst := some 31, op := .lenL (.slot 30), guard := some (28, true) },
               { dst := some 32, op := .bin .eql (.slot 31) (.lit (.int .i64 0)), guard := some (28, true) },
               { dst := some 33, op := .pick (.slot 28) (.slot 32) (.lit (.bool false)) },
               { dst := some 34, op := .mv (.slot 33) },
               { dst := some 35, op := .mv (.slot 4), guard := some (34, true) },
               { dst := some 36, op := .faddr 1 (.slot 1), guard := some (34, true) },
               { dst := some 37, op := .load1 (.slot 36), guard := some (34, true) },
               { dst := some 38, op := .bin .eql (.slot 35) (.slot 37), guard := some (34, true) },
               { dst := some 39, op := .pick (.slot 34) (.slot 38) (.lit (.bool false)) },
               { dst := some 40, op := .mv (.slot 39) },
               { dst := some 41, op := .mv (.slot 5), guard := some (40, true) },
               { dst := some 42, op := .faddr 2 (.slot 1), guard := some (40, true) },
               { dst := some 43, op := .load1 (.slot 42), guard := some (40, true) },
               { dst := some 44, op := .bin .eql (.slot 41) (.slot 43), guard := some (40, true) },
               { dst := some 45, op := .pick (.slot 40) (.slot 44) (.lit (.bool false)) },
               { dst := some 46, op := .mv (.slot 45) },
               { dst := some 47, op := .mv (.slot 4), guard := some (46, true) },
               { dst := some 48, op := .callP (.lit (.fn (I 142) [])) [(.slot 47)] false false, guard := some (46, true) },
               { dst := some 49, op := .bin .leq (.slot 48) (.lit (.int .i64 100)), guard := some (46, true) },
               { dst := some 50, op := .pick (.slot 46) (.slot 49) (.lit (.bool false)) },
               { dst := some 51, op := .mv (.slot 50) },
               { dst := some 52, op := .mv (.slot 5), guard := some (51, true) },
               { dst := some 53, op := .callP (.lit (.fn (I 142) [])) [(.slot 52)] false false, guard := some (51, true) },
               { dst := some 54, op := .bin .leq (.slot 53) (.lit (.int .i64 100)), guard := some (51, true) },
               { dst := some 55, op := .pick (.slot 51) (.slot 54) (.lit (.bool false)) },
               { dst := some 2, op := .mv (.slot 55) }])
            (.ret)))
          (.seq (.reg false [
              { dst := some 57, op := .bin .eql (.slot 11) (.lit (.int .i64 2)) },
              { dst := some 56, op := .mv (.slot 57) }])
           (.cond (.slot 56)
            (.seq (.reg false [
                { dst := some 58, op := .faddr 3 (.slot 1) },
                { dst := some 59, op := .loadA 2 (.slot 58) },
                { dst := some 60, op := .callP (.lit (.fn (I 135) [])) [(.slot 59)] false false },
                { dst := some 61, op := .mv (.slot 60) },
                { dst := some 62, op := .faddr 1 (.slot 1), guard := some (61, true) },
                { dst := some 63, op := .load1 (.slot 62), guard := some (61, true) },
                { dst := some 64, op := .bin .eql (.slot 63) (.lit (.str [])), guard := some (61, true) },
                { dst := some 65, op := .pick (.slot 61) (.slot 64) (.lit (.bool false)) },
                { dst := some 66, op := .mv (.slot 65) },
                { dst := some 67, op := .faddr 2 (.slot 1), guard := some (66, true) },
                { dst := some 68, op := .load1 (.slot 67), guard := some (66, true) },
                { dst := some 69, op := .bin .eql (.slot 68) (.lit (.str [])), guard := some (66, true) },
                { dst := some 70, op := .pick (.slot 66) (.slot 69) (.lit (.bool false)) },
                { dst := some 71, op := .mv (.slot 70) },
                { dst := some 72, op := .faddr 5 (.slot 1), guard := some (71, true) },
                { dst := some 73, op := .load1 (.slot 72), guard := some (71, true) },
                { dst := some 74, op := .bin .eql (.slot 73) (.lit (.str [])), guard := some (71, true) },
                { dst := some 75, op := .pick (.slot 71) (.slot 74) (.lit (.bool false)) },
                { dst := some 76, op := .mv (.slot 75) },
                { dst := some 77, op := .faddr 6 (.slot 1), guard := some (76, true) },
                { dst := some 78, op := .load1 (.slot 77), guard := some (76, true) },
                { dst := some 79, op := .lenL (.slot 78), guard := some (76, true) },
                { dst := some 80, op := .bin .eql (.slot 79) (.lit (.int .i64 0)), guard := some (76, true) },
                { dst := some 81, op := .pick (.slot 76) (.slot 80) (.lit (.bool false)) },
                { dst := some 2, op := .mv (.slot 81) }])
             (.ret))
            (.seq (.reg false [
                { dst := some 83, op := .bin .eql (.slot 11) (.lit (.int .i64 3)) },
                { dst := some 82, op := .mv (.slot 83) }])
             (.cond (.slot 82)
              (.seq (.reg false [
                  { dst := some 84, op := .mv (.slot 3) },
                  { dst := some 85, op := .mv (.slot 84) },
                  { dst := some 86, op := .faddr 1 (.slot 1), guard := some (85, true) },
                  { dst := some 87, op := .load1 (.slot 86), guard := some (85, true) },
                  { dst := some 88, op := .bin .eql (.slot 87) (.lit (.str [])), guard := some (85, true) },
                  { dst := some 89, op := .pick (.slot 85) (.slot 88) (.lit (.bool false)) },
                  { dst := some 90, op := .mv (.slot 89) },
                  { dst := some 91, op := .faddr 2 (.slot 1), guard := some (90, true) },
                  { dst := some 92, op := .load1 (.slot 91), guard := some (90, true) },
                  { dst := some 93, op := .bin .eql (.slot 92) (.lit (.str [])), guard := some (90, true) },
                  { dst := some 94, op := .pick (.slot 90) (.slot 93) (.lit (.bool false)) },
                  { dst := some 95, op := .mv (.slot 94) },
                  { dst := some 96, op := .faddr 5 (.slot 1), guard := some (95, true) },
                  { dst := some 97, op := .load1 (.slot 96), guard := some (95, true) },
                  { dst := some 98, op := .lenS (.slot 97), guard := some (95, true) },
                  { dst := some 99, op := .bin .leq (.slot 98) (.lit (.int .i64 200)), guard := some (95, true) },
                  { dst := some 100, op := .pick (.slot 95) (.slot 99) (.lit (.bool false)) },
                  { dst := some 101, op := .mv (.slot 100) },
                  { dst := some 102, op := .faddr 6 (.slot 1), guard := some (101, true) },
                  { dst := some 103, op := .load1 (.slot 102), guard := some (101, true) },
                  { dst := some 104, op := .lenL (.slot 103), guard := some (101, true) },
                  { dst := some 105, op := .bin .eql (.slot 104) (.lit (.int .i64 0)), guard := some (101, true) },
                  { dst := some 106, op := .pick (.slot 101) (.slot 105) (.lit (.bool false)) },
                  { dst := some 2, op := .mv (.slot 106) }])
               (.ret))
              (.seq (.reg false [
                  { dst := some 108, op := .bin .eql (.slot 11) (.lit (.int .i64 4)) },
                  { dst := some 107, op := .mv (.slot 108) }])
               (.cond (.slot 107)
                (.seq (.reg false [
                    { dst := some 109, op := .mv (.slot 3) },
                    { dst := some 110, op := .mv (.slot 109) },
                    { dst := some 111, op := .faddr 1 (.slot 1), guard := some (110, true) },
                    { dst := some 112, op := .load1 (.slot 111), guard := some (110, true) },
                    { dst := some 113, op := .bin .eql (.slot 112) (.lit (.str [])), guard := some (110, true) },
                    { dst := some 114, op := .pick (.slot 110) (.slot 113) (.lit (.bool false)) },
                    { dst := some 115, op := .mv (.slot 114) },
                    { dst := some 116, op := .faddr 2 (.slot 1), guard := some (115, true) },
                    { dst := some 117, op := .load1 (.slot 116), guard := some (115, true) },
                    { dst := some 118, op := .bin .eql (.slot 117) (.lit (.str [])), guard := some (115, true) },
                    { dst := some 119, op := .pick (.slot 115) (.slot 118) (.lit (.bool false)) },
                    { dst := some 120, op := .mv (.slot 119) },
                    { dst := some 121, op := .faddr 5 (.slot 1), guard := some (120, true) },
                    { dst := some 122, op := .load1 (.slot 121), guard := some (120, true) },
                    { dst := some 123, op := .bin .eql (.slot 122) (.lit (.str [])), guard := some (120, true) },
                    { dst := some 124, op := .pick (.slot 120) (.slot 123) (.lit (.bool false)) },
                    { dst := some 125, op := .mv (.slot 124) },
                    { dst := some 126, op := .faddr 6 (.slot 1), guard := some (125, true) },
                    { dst := some 127, op := .load1 (.slot 126), guard := some (125, true) },
                    { dst := some 128, op := .lenL (.slot 127), guard := some (125, true) },
                    { dst := some 129, op := .bin .eql (.slot 128) (.lit (.int .i64 2)), guard := some (125, true) },
                    { dst := some 130, op := .pick (.slot 125) (.slot 129) (.lit (.bool false)) },
                    { dst := some 131, op := .mv (.slot 130) },
                    { dst := some 132, op := .faddr 6 (.slot 1), guard := some (131, true) },
                    { dst := some 133, op := .load1 (.slot 132), guard := some (131, true) },
                    { dst := some 134, op := .iaddr 7 (.slot 133) (.lit (.int .i64 0)), guard := some (131, true) },
                    { dst := some 135, op := .loadA 7 (.slot 134), guard := some (131, true) },
                    { dst := some 136, op := .callP (.lit (.fn (I 134) [])) [(.slot 135)] false false, guard := some (131, true) },
                    { dst := some 137, op := .pick (.slot 131) (.slot 136) (.lit (.bool false)) },
                    { dst := some 138, op := .mv (.slot 137) },
                    { dst := some 139, op := .faddr 6 (.slot 1), guard := some (138, true) },
                    { dst := some 140, op := .load1 (.slot 139), guard := some (138, true) },
                    { dst := some 141, op := .iaddr 7 (.slot 140) (.lit (.int .i64 1)), guard := some (138, true) },
                    { dst := some 142, op := .loadA 7 (.slot 141), guard := some (138, true) },
                    { dst := some 143, op := .callP (.lit (.fn (I 134) [])) [(.slot 142)] false false, guard := some (138, true) },
                    { dst := some 144, op := .pick (.slot 138) (.slot 143) (.lit (.bool false)) },
                    { dst := some 2, op := .mv (.slot 144) }])
                 (.ret))
                (.skip)))))))))))
      (.seq (.reg false [
          { dst := some 2, op := .mv (.lit (.bool false)) }])
       (.ret))))
  res := [.tmp 2]
  keepOwn := false

/-- lispprover/lispproverref2.Named -/
def F135 (I J : Nat → Nat) : AFunc where
  code := .seq (.reg false [
       { dst := some 1, op := .box (.slot 0) },
       { dst := some 2, op := .mv (.lit (.bool false)) }])
    (.seq (.reg false [
        { dst := some 3, op := .faddr 0 (.slot 1) },
        { dst := some 4, op := .load1 (.slot 3) },
        { dst := some 5, op := .callP (.lit (.fn (I 143) [])) [(.slot 4)] false false },
        { dst := some 6, op := .mv (.slot 5) },
        { dst := some 7, op := .faddr 1 (.slot 1), guard := some (6, true) },
        { dst := some 8, op := .load1 (.slot 7), guard := some (6, true) },
        { dst := some 9, op := .lenS (.slot 8), guard := some (6, true) },
        { dst := some 10, op := .bin .geq (.slot 9) (.lit (.int .i64 1)), guard := some (6, true) },
        { dst := some 11, op := .pick (.slot 6) (.slot 10) (.lit (.bool false)) },
        { dst := some 12, op := .mv (.slot 11) },
        { dst := some 13, op := .faddr 1 (.slot 1), guard := some (12, true) },
        { dst := some 14, op := .load1 (.slot 13), guard := some (12, true) },
        { dst := some 15, op := .lenS (.slot 14), guard := some (12, true) },
        { dst := some 16, op := .bin .leq (.slot 15) (.lit (.int .i64 40)), guard := some (12, true) },
        { dst := some 17, op := .pick (.slot 12) (.slot 16) (.lit (.bool false)) },
        { dst := some 2, op := .mv (.slot 17) }])
     (.ret))
  res := [.tmp 2]
  keepOwn := false

/-- lispprover/lispproverref2.count -/
def F141 (I J : Nat → Nat) : AFunc where
  code := .seq (.reg false [
       { dst := some 2, op := .box (.slot 0) },
       { dst := some 4, op := .mv (.lit (.int .i64 0)) }])
    (.seq (.seq (.reg false [
         { dst := some 6, op := .faddr 6 (.slot 2) },
         { dst := some 7, op := .load1 (.slot 6) },
         { dst := some 8, op := .lenL (.slot 7) },
         { dst := some 9, op := .bin .neq (.slot 8) (.lit (.int .i64 2)) },
         { dst := some 10, op := .mv (.slot 9) },
         { dst := some 11, op := .mv (.slot 1), guard := some (10, false) },
         { dst := some 12, op := .bin .leq (.slot 11) (.lit (.int .i64 1)), guard := some (10, false) },
         { dst := some 13, op := .pick (.slot 10) (.lit (.bool true)) (.slot 12) }])
      (.cond (.slot 13)
       (.seq (.reg false [
           { dst := some 4, op := .mv (.lit (.int .i64 1)) }])
        (.ret))
       (.skip)))
     (.seq (.reg false [
         { dst := some 14, op := .faddr 6 (.slot 2) },
         { dst := some 15, op := .load1 (.slot 14) },
         { dst := some 16, op := .iaddr 7 (.slot 15) (.lit (.int .i64 0)) },
         { dst := some 17, op := .loadA 7 (.slot 16) },
         { dst := some 18, op := .mv (.slot 1) },
         { dst := some 19, op := .bin .sub (.slot 18) (.lit (.int .i64 1)) },
         { dst := some 20, op := .callP (.lit (.fn (I 141) [])) [(.slot 17), (.slot 19)] false false },
         { dst := some 21, op := .bin .add (.lit (.int .i64 1)) (.slot 20) },
         { dst := some 5, op := .mv (.slot 21) }])
      (.seq (.seq (.reg false [
           { dst := some 22, op := .mv (.slot 5) },
           { dst := some 23, op := .mv (.slot 1) },
           { dst := some 24, op := .bin .geq (.slot 22) (.slot 23) }])
        (.cond (.slot 24)
         (.seq (.reg false [
             { dst := some 25, op := .mv (.slot 1) },
             { dst := some 4, op := .mv (.slot 25) }])
          (.ret))
         (.skip)))
       (.seq (.reg false [
           { dst := some 26, op := .mv (.slot 5) },
           { dst := some 27, op := .faddr 6 (.slot 2) },
           { dst := some 28, op := .load1 (.slot 27) },
           { dst := some 29, op := .iaddr 7 (.slot 28) (.lit (.int .i64 1)) },
           { dst := some 30, op := .loadA 7 (.slot 29) },
           { dst := some 31, op := .mv (.slot 1) },
           { dst := some 32, op := .mv (.slot 5) },
           { dst := some 33, op := .bin .sub (.slot 31) (.slot 32) },
           { dst := some 34, op := .callP (.lit (.fn (I 141) [])) [(.slot 30), (.slot 33)] false false },
           { dst := some 35, op := .bin .add (.slot 26) (.slot 34) },
           { dst := some 4, op := .mv (.slot 35) }])
        (.ret)))))
  res := [.tmp 4]
  keepOwn := false

def F143_0 (I J : Nat → Nat) : AC :=
  .seq (.seq (.reg false [
        { dst := some 23, op := .mv (.slot 3) },
        { dst := some 24, op := .mv (.slot 0) },
        { dst := some 25, op := .lenS (.slot 24) },
        { dst := some 26, op := .bin .lss (.slot 23) (.slot 25) }])
     (.cond (.slot 26)
      (.skip)
      (.exit 0)))
    (.seq (.block 1 (.seq (.reg false [
          { dst := some 29, op := .mv (.slot 0) },
          { dst := some 30, op := .mv (.slot 3) },
          { dst := some 31, op := .idxS (.slot 29) (.slot 30) },
          { dst := some 4, op := .mv (.slot 31) }])
       (.seq (.reg false [
           { dst := some 32, op := .mv (.slot 4) },
           { dst := some 33, op := .bin .lss (.slot 32) (.lit (.int .u8 97)) },
           { dst := some 34, op := .mv (.slot 33) },
           { dst := some 35, op := .mv (.slot 4), guard := some (34, false) },
           { dst := some 36, op := .bin .gtr (.slot 35) (.lit (.int .u8 122)), guard := some (34, false) },
           { dst := some 37, op := .pick (.slot 34) (.lit (.bool true)) (.slot 36) },
           { dst := some 38, op := .mv (.slot 37) },
           { dst := some 39, op := .mv (.slot 4), guard := some (38, true) },
           { dst := some 40, op := .bin .lss (.slot 39) (.lit (.int .u8 48)), guard := some (38, true) },
           { dst := some 41, op := .mv (.slot 40), guard := some (38, true) },
           { dst := some 42, op := .mv (.slot 4), guard := some (41, false) },
           { dst := some 43, op := .bin .gtr (.slot 42) (.lit (.int .u8 57)), guard := some (41, false) },
           { dst := some 44, op := .pick (.slot 41) (.lit (.bool true)) (.slot 43), guard := some (38, true) },
           { dst := some 45, op := .pick (.slot 38) (.slot 44) (.lit (.bool false)) },
           { dst := some 46, op := .mv (.slot 45) },
           { dst := some 47, op := .mv (.slot 4), guard := some (46, true) },
           { dst := some 48, op := .bin .neq (.slot 47) (.lit (.int .u8 45)), guard := some (46, true) },
           { dst := some 49, op := .pick (.slot 46) (.slot 48) (.lit (.bool false)) }])
        (.cond (.slot 49)
         (.seq (.reg false [
             { dst := some 2, op := .mv (.lit (.bool false)) }])
          (.ret))
         (.skip)))))
     (.reg false [
        { dst := some 27, op := .mv (.slot 3) },
        { dst := some 28, op := .bin .add (.slot 27) (.lit (.int .i64 1)) },
        { dst := some 3, op := .mv (.slot 28) }]))
/-- lispprover/lispproverref2.Package -/
def F143 (I J : Nat → Nat) : AFunc where
  code := .seq (.reg false [
       { dst := some 2, op := .mv (.lit (.bool false)) }])
    (.seq (.seq (.reg false [
         { dst := some 5, op := .mv (.slot 0) },
         { dst := some 6, op := .lenS (.slot 5) },
         { dst := some 7, op := .bin .lss (.slot 6) (.lit (.int .i64 1)) },
         { dst := some 8, op := .mv (.slot 7) },
         { dst := some 9, op := .mv (.slot 0), guard := some (8, false) },
         { dst := some 10, op := .lenS (.slot 9), guard := some (8, false) },
         { dst := some 11, op := .bin .gtr (.slot 10) (.lit (.int .i64 40)), guard := some (8, false) },
         { dst := some 12, op := .pick (.slot 8) (.lit (.bool true)) (.slot 11) },
         { dst := some 13, op := .mv (.slot 12) },
         { dst := some 14, op := .mv (.slot 0), guard := some (13, false) },
         { dst := some 15, op := .idxS (.slot 14) (.lit (.int .i64 0)), guard := some (13, false) },
         { dst := some 16, op := .bin .lss (.slot 15) (.lit (.int .u8 97)), guard := some (13, false) },
         { dst := some 17, op := .pick (.slot 13) (.lit (.bool true)) (.slot 16) },
         { dst := some 18, op := .mv (.slot 17) },
         { dst := some 19, op := .mv (.slot 0), guard := some (18, false) },
         { dst := some 20, op := .idxS (.slot 19) (.lit (.int .i64 0)), guard := some (18, false) },
         { dst := some 21, op := .bin .gtr (.slot 20) (.lit (.int .u8 122)), guard := some (18, false) },
         { dst := some 22, op := .pick (.slot 18) (.lit (.bool true)) (.slot 21) }])
      (.cond (.slot 22)
       (.seq (.reg false [
           { dst := some 2, op := .mv (.lit (.bool false)) }])
        (.ret))
       (.skip)))
     (.seq (.seq (.reg false [
          { dst := some 3, op := .mv (.lit (.int .i64 0)) }])
       (.block 0 (.loop [0, 3] [] (F143_0 I J))))
      (.seq (.reg false [
          { dst := some 2, op := .mv (.lit (.bool true)) }])
       (.ret))))
  res := [.tmp 2]
  keepOwn := false

end Go.Vs.C

namespace Go.Vs.C
open Go Go.Vs
set_option maxRecDepth 100000
set_option linter.unusedVariables false
/-- lispprover/lispproverref4.Valid -/
def F122 (I J : Nat → Nat) : AFunc where
  code := .seq (.reg false [
       { dst := some 1, op := .box (.slot 0) },
       { dst := some 2, op := .mv (.lit (.bool false)) }])
    (.seq (.reg false [
        { dst := some 3, op := .loadA 2 (.slot 1) },
        { dst := some 4, op := .callP (.lit (.fn (I 135) [])) [(.slot 3)] false false },
        { dst := some 2, op := .mv (.slot 4) }])
     (.ret))
  res := [.tmp 2]
  keepOwn := false

end Go.Vs.C

namespace Go.Vs.C
open Go Go.Vs
set_option maxRecDepth 100000
set_option linter.unusedVariables false
/-- lispprover/lispproverref8.Substitute -/
def F14 (I J : Nat → Nat) : AFunc where
  code := .seq (.reg false [
       { dst := some 2, op := .box (.slot 0) },
       { dst := some 4, op := .alloc [.int .i64 0, .str [], .str [], .int .i64 0, .str [], .str [], .str [], .str [], .str [], .slice [], .slice []] }])
    (.seq (.seq (.reg false [
         { dst := some 7, op := .faddr 0 (.slot 2) },
         { dst := some 8, op := .load1 (.slot 7) }])
      (.block 0 (.seq (.reg false [
           { dst := some 10, op := .bin .eql (.slot 8) (.lit (.int .i64 1)) },
           { dst := some 9, op := .mv (.slot 10) }])
        (.cond (.slot 9)
         (.seq (.reg false [
             { dst := some 12, op := .mv (.slot 1) },
             { dst := some 13, op := .faddr 1 (.slot 2) },
             { dst := some 14, op := .loadA 2 (.slot 13) },
             { dst := some 15, op := .callP (.lit (.fn (I 54) [])) [(.slot 12), (.slot 14)] false false },
             { dst := some 11, op := .mv (.take 15) },
             { dst := some 16, op := .extr 11 0 },
             { dst := some 17, op := .extr 11 1 },
             { dst := some 5, op := .alloc [.int .i64 0, .str [], .str [], .int .i64 0, .str [], .str [], .str [], .str [], .str [], .slice [], .slice []] },
             { dst := none, op := .storeA 11 (.slot 5) (.slot 16) },
             { dst := some 6, op := .mv (.slot 17) }])
          (.seq (.reg false [
              { dst := some 18, op := .mv (.slot 6) }])
           (.cond (.slot 18)
            (.seq (.reg false [
                { dst := some 19, op := .loadA 11 (.slot 5) },
                { dst := none, op := .storeA 11 (.slot 4) (.slot 19) }])
             (.ret))
            (.skip))))
         (.seq (.reg false [
             { dst := some 21, op := .bin .eql (.slot 8) (.lit (.int .i64 3)) },
             { dst := some 20, op := .mv (.slot 21) }])
          (.cond (.slot 20)
           (.seq (.reg true [
               { dst := some 22, op := .faddr 1 (.slot 2) },
               { dst := some 23, op := .ldL 2 (some 2) (.slot 22) },
               { dst := some 24, op := .faddr 10 (.slot 2) },
               { dst := some 25, op := .ldL 2 none (.slot 24) },
               { dst := some 26, op := .mv (.slot 1) },
               { dst := some 27, op := .callP (.lit (.fn (I 55) [])) [(.slot 25), (.slot 26)] false false },
               { dst := some 28, op := .callP (.lit (.fn (I 30) [])) [(.slot 23), (.slot 27)] false false },
               { dst := none, op := .stL 4 (some 11) (.slot 4) (.slot 28) }])
            (.ret))
           (.skip)))))))
     (.seq (.reg false [
         { dst := some 29, op := .loadA 11 (.slot 2) },
         { dst := none, op := .storeA 11 (.slot 4) (.slot 29) }])
      (.ret)))
  res := [.cell 4 11 true]
  keepOwn := false

/-- lispprover/lispproverref8.Equal -/
def F15 (I J : Nat → Nat) : AFunc where
  code := .seq (.reg false [
       { dst := some 2, op := .box (.slot 0) },
       { dst := some 3, op := .box (.slot 1) },
       { dst := some 4, op := .mv (.lit (.bool false)) }])
    (.seq (.reg false [
        { dst := some 5, op := .faddr 0 (.slot 2) },
        { dst := some 6, op := .load1 (.slot 5) },
        { dst := some 7, op := .faddr 0 (.slot 3) },
        { dst := some 8, op := .load1 (.slot 7) },
        { dst := some 9, op := .bin .eql (.slot 6) (.slot 8) },
        { dst := some 10, op := .mv (.slot 9) },
        { dst := some 11, op := .faddr 1 (.slot 2), guard := some (10, true) },
        { dst := some 12, op := .loadA 2 (.slot 11), guard := some (10, true) },
        { dst := some 13, op := .faddr 1 (.slot 3), guard := some (10, true) },
        { dst := some 14, op := .loadA 2 (.slot 13), guard := some (10, true) },
        { dst := some 15, op := .eqA false [0, 0] (.slot 12) (.slot 14), guard := some (10, true) },
        { dst := some 16, op := .pick (.slot 10) (.slot 15) (.lit (.bool false)) },
        { dst := some 17, op := .mv (.slot 16) },
        { dst := some 18, op := .faddr 3 (.slot 2), guard := some (17, true) },
        { dst := some 19, op := .loadA 7 (.slot 18), guard := some (17, true) },
        { dst := some 20, op := .faddr 3 (.slot 3), guard := some (17, true) },
        { dst := some 21, op := .loadA 7 (.slot 20), guard := some (17, true) },
        { dst := some 22, op := .callP (.lit (.fn (I 46) [])) [(.slot 19), (.slot 21)] false false, guard := some (17, true) },
        { dst := some 23, op := .pick (.slot 17) (.slot 22) (.lit (.bool false)) },
        { dst := some 24, op := .mv (.slot 23) },
        { dst := some 25, op := .faddr 10 (.slot 2), guard := some (24, true) },
        { dst := some 26, op := .load1 (.slot 25), guard := some (24, true) },
        { dst := some 27, op := .faddr 10 (.slot 3), guard := some (24, true) },
        { dst := some 28, op := .load1 (.slot 27), guard := some (24, true) },
        { dst := some 29, op := .callP (.lit (.fn (I 56) [])) [(.slot 26), (.slot 28)] false false, guard := some (24, true) },
        { dst := some 30, op := .pick (.slot 24) (.slot 29) (.lit (.bool false)) },
        { dst := some 4, op := .mv (.slot 30) }])
     (.ret))
  res := [.tmp 4]
  keepOwn := false

/-- lispprover/lispproverref8.Ground -/
def F18 (I J : Nat → Nat) : AFunc where
  code := .seq (.reg false [
       { dst := some 1, op := .box (.slot 0) },
       { dst := some 2, op := .mv (.lit (.bool false)) }])
    (.seq (.reg false [
        { dst := some 3, op := .loadA 11 (.slot 1) },
        { dst := some 4, op := .lits false 11 [(.slot 3)] },
        { dst := some 5, op := .callP (.lit (.fn (I 20) [])) [(.slot 4)] false false },
        { dst := some 6, op := .lenL (.slot 5) },
        { dst := some 7, op := .bin .eql (.slot 6) (.lit (.int .i64 0)) },
        { dst := some 2, op := .mv (.slot 7) }])
     (.ret))
  res := [.tmp 2]
  keepOwn := false

def F20_0 (I J : Nat → Nat) : AC :=
  .seq (.seq (.reg false [
        { dst := some 31, op := .mv (.slot 6) },
        { dst := some 32, op := .mv (.slot 5) },
        { dst := some 33, op := .lenL (.slot 32) },
        { dst := some 34, op := .bin .lss (.slot 31) (.slot 33) }])
     (.cond (.slot 34)
      (.skip)
      (.exit 2)))
    (.seq (.block 3 (.seq (.reg false [
          { dst := some 37, op := .mv (.slot 3) },
          { dst := some 38, op := .mv (.slot 5) },
          { dst := some 39, op := .mv (.slot 6) },
          { dst := some 40, op := .iaddr 2 (.slot 38) (.slot 39) },
          { dst := some 41, op := .loadA 2 (.slot 40) },
          { dst := some 42, op := .callP (.lit (.fn (I 63) [])) [(.slot 37), (.slot 41)] false false },
          { dst := some 43, op := .un .not (.slot 42) }])
       (.cond (.slot 43)
        (.reg false [
           { dst := some 44, op := .mv (.take 3) },
           { dst := some 45, op := .mv (.slot 5) },
           { dst := some 46, op := .mv (.slot 6) },
           { dst := some 47, op := .iaddr 2 (.slot 45) (.slot 46) },
           { dst := some 48, op := .loadA 2 (.slot 47) },
           { dst := some 49, op := .lits false 2 [(.slot 48)] },
           { dst := some 50, op := .app false false 2 (.take 44) (.slot 49) },
           { dst := some 3, op := .mv (.take 50) }])
        (.skip))))
     (.reg false [
        { dst := some 35, op := .mv (.slot 6) },
        { dst := some 36, op := .bin .add (.slot 35) (.lit (.int .i64 1)) },
        { dst := some 6, op := .mv (.slot 36) }]))
def F20_1 (I J : Nat → Nat) : AC :=
  .seq (.seq (.reg false [
        { dst := some 7, op := .mv (.slot 4) },
        { dst := some 8, op := .mv (.slot 0) },
        { dst := some 9, op := .lenL (.slot 8) },
        { dst := some 10, op := .bin .lss (.slot 7) (.slot 9) }])
     (.cond (.slot 10)
      (.skip)
      (.exit 0)))
    (.seq (.block 1 (.seq (.reg false [
          { dst := some 5, op := .mv (.lit (.slice [])) }])
       (.seq (.seq (.reg false [
            { dst := some 13, op := .mv (.slot 0) },
            { dst := some 14, op := .mv (.slot 4) },
            { dst := some 15, op := .iaddr 11 (.slot 13) (.slot 14) },
            { dst := some 16, op := .faddr 0 (.slot 15) },
            { dst := some 17, op := .load1 (.slot 16) },
            { dst := some 18, op := .bin .eql (.slot 17) (.lit (.int .i64 1)) }])
         (.cond (.slot 18)
          (.reg false [
             { dst := some 19, op := .mv (.slot 0) },
             { dst := some 20, op := .mv (.slot 4) },
             { dst := some 21, op := .iaddr 11 (.slot 19) (.slot 20) },
             { dst := some 22, op := .faddr 1 (.slot 21) },
             { dst := some 23, op := .loadA 2 (.slot 22) },
             { dst := some 24, op := .lits false 2 [(.slot 23)] },
             { dst := some 5, op := .mv (.slot 24) }])
          (.reg false [
             { dst := some 25, op := .mv (.slot 0) },
             { dst := some 26, op := .mv (.slot 4) },
             { dst := some 27, op := .iaddr 11 (.slot 25) (.slot 26) },
             { dst := some 28, op := .loadA 11 (.slot 27) },
             { dst := some 29, op := .callP (.lit (.fn (I 62) [])) [(.slot 28)] false false },
             { dst := some 30, op := .callP (.lit (.fn (I 20) [])) [(.slot 29)] false false },
             { dst := some 5, op := .mv (.slot 30) }])))
        (.seq (.reg false [
            { dst := some 6, op := .mv (.lit (.int .i64 0)) }])
         (.block 2 (.loop [0, 3, 4, 5, 6] [] (F20_0 I J)))))))
     (.reg false [
        { dst := some 11, op := .mv (.slot 4) },
        { dst := some 12, op := .bin .add (.slot 11) (.lit (.int .i64 1)) },
        { dst := some 4, op := .mv (.slot 12) }]))
/-- lispprover/lispproverref8.Variables -/
def F20 (I J : Nat → Nat) : AFunc where
  code := .seq (.reg false [
       { dst := some 2, op := .mv (.lit (.slice [])) }])
    (.seq (.reg false [
        { dst := some 3, op := .mv (.lit (.onil)) }])
     (.seq (.seq (.reg false [
          { dst := some 4, op := .mv (.lit (.int .i64 0)) }])
       (.block 0 (.loop [0, 3, 4] [] (F20_1 I J))))
      (.seq (.reg false [
          { dst := some 51, op := .mv (.slot 3) },
          { dst := some 2, op := .mv (.slot 51) }])
       (.ret))))
  res := [.tmp 2]
  keepOwn := false

def F23_0 (I J : Nat → Nat) : AC :=
  .seq (.seq (.reg false [
        { dst := some 32, op := .mv (.slot 6) },
        { dst := some 33, op := .mv (.slot 5) },
        { dst := some 34, op := .lenL (.slot 33) },
        { dst := some 35, op := .bin .lss (.slot 32) (.slot 34) }])
     (.cond (.slot 35)
      (.skip)
      (.exit 2)))
    (.seq (.block 3 (.seq (.reg false [
          { dst := some 38, op := .mv (.slot 3) },
          { dst := some 39, op := .mv (.slot 5) },
          { dst := some 40, op := .mv (.slot 6) },
          { dst := some 41, op := .iaddr 2 (.slot 39) (.slot 40) },
          { dst := some 42, op := .loadA 2 (.slot 41) },
          { dst := some 43, op := .callP (.lit (.fn (I 63) [])) [(.slot 38), (.slot 42)] false false },
          { dst := some 44, op := .un .not (.slot 43) }])
       (.cond (.slot 44)
        (.reg false [
           { dst := some 45, op := .mv (.take 3) },
           { dst := some 46, op := .mv (.slot 5) },
           { dst := some 47, op := .mv (.slot 6) },
           { dst := some 48, op := .iaddr 2 (.slot 46) (.slot 47) },
           { dst := some 49, op := .loadA 2 (.slot 48) },
           { dst := some 50, op := .lits false 2 [(.slot 49)] },
           { dst := some 51, op := .app false false 2 (.take 45) (.slot 50) },
           { dst := some 3, op := .mv (.take 51) }])
        (.skip))))
     (.reg false [
        { dst := some 36, op := .mv (.slot 6) },
        { dst := some 37, op := .bin .add (.slot 36) (.lit (.int .i64 1)) },
        { dst := some 6, op := .mv (.slot 37) }]))
def F23_1 (I J : Nat → Nat) : AC :=
  .seq (.seq (.reg false [
        { dst := some 7, op := .mv (.slot 4) },
        { dst := some 8, op := .mv (.slot 0) },
        { dst := some 9, op := .lenL (.slot 8) },
        { dst := some 10, op := .bin .lss (.slot 7) (.slot 9) }])
     (.cond (.slot 10)
      (.skip)
      (.exit 0)))
    (.seq (.block 1 (.seq (.seq (.reg false [
           { dst := some 13, op := .mv (.slot 0) },
           { dst := some 14, op := .mv (.slot 4) },
           { dst := some 15, op := .iaddr 11 (.slot 13) (.slot 14) },
           { dst := some 16, op := .faddr 0 (.slot 15) },
           { dst := some 17, op := .load1 (.slot 16) },
           { dst := some 18, op := .bin .neq (.slot 17) (.lit (.int .i64 3)) }])
        (.cond (.slot 18)
         (.exit 1)
         (.skip)))
       (.seq (.reg true [
           { dst := some 19, op := .mv (.slot 0) },
           { dst := some 20, op := .mv (.slot 4) },
           { dst := some 21, op := .iaddr 11 (.slot 19) (.slot 20) },
           { dst := some 22, op := .faddr 1 (.slot 21) },
           { dst := some 23, op := .loadA 2 (.slot 22) },
           { dst := some 24, op := .lits false 2 [(.slot 23)] },
           { dst := some 25, op := .mv (.slot 0) },
           { dst := some 26, op := .mv (.slot 4) },
           { dst := some 27, op := .iaddr 11 (.slot 25) (.slot 26) },
           { dst := some 28, op := .faddr 10 (.slot 27) },
           { dst := some 29, op := .load1 (.slot 28) },
           { dst := some 30, op := .callP (.lit (.fn (I 23) [])) [(.slot 29)] false false },
           { dst := some 31, op := .app false false 2 (.take 24) (.slot 30) },
           { dst := some 5, op := .mv (.slot 31) }])
        (.seq (.reg false [
            { dst := some 6, op := .mv (.lit (.int .i64 0)) }])
         (.block 2 (.loop [0, 3, 4, 5, 6] [] (F23_0 I J)))))))
     (.reg false [
        { dst := some 11, op := .mv (.slot 4) },
        { dst := some 12, op := .bin .add (.slot 11) (.lit (.int .i64 1)) },
        { dst := some 4, op := .mv (.slot 12) }]))
/-- lispprover/lispproverref8.Functions -/
def F23 (I J : Nat → Nat) : AFunc where
  code := .seq (.reg false [
       { dst := some 2, op := .mv (.lit (.slice [])) }])
    (.seq (.reg false [
        { dst := some 3, op := .mv (.lit (.onil)) }])
     (.seq (.seq (.reg false [
          { dst := some 4, op := .mv (.lit (.int .i64 0)) }])
       (.block 0 (.loop [0, 3, 4] [] (F23_1 I J))))
      (.seq (.reg false [
          { dst := some 52, op := .mv (.slot 3) },
          { dst := some 2, op := .mv (.slot 52) }])
       (.ret))))
  res := [.tmp 2]
  keepOwn := false

/-- lispprover/lispproverref8.Var -/
def F26 (I J : Nat → Nat) : AFunc where
  code := .seq (.reg false [
       { dst := some 1, op := .box (.slot 0) },
       { dst := some 2, op := .alloc [.int .i64 0, .str [], .str [], .int .i64 0, .str [], .str [], .str [], .str [], .str [], .slice [], .slice []] }])
    (.seq (.reg false [
        { dst := some 3, op := .loadA 2 (.slot 1) },
        { dst := some 4, op := .build [.int .i64 0, .str [], .str [], .int .i64 0, .str [], .str [], .str [], .str [], .str [], .slice [], .slice []] [(0, 1, (.lit (.int .i64 1))), (1, 2, (.slot 3))] },
        { dst := none, op := .storeA 11 (.slot 2) (.slot 4) }])
     (.ret))
  res := [.cell 2 11 true]
  keepOwn := false

/-- lispprover/lispproverref8.Const -/
def F28 (I J : Nat → Nat) : AFunc where
  code := .seq (.reg false [
       { dst := some 1, op := .box (.slot 0) },
       { dst := some 2, op := .alloc [.int .i64 0, .str [], .str [], .int .i64 0, .str [], .str [], .str [], .str [], .str [], .slice [], .slice []] }])
    (.seq (.reg false [
        { dst := some 3, op := .loadA 7 (.slot 1) },
        { dst := some 4, op := .build [.int .i64 0, .str [], .str [], .int .i64 0, .str [], .str [], .str [], .str [], .str [], .slice [], .slice []] [(0, 1, (.lit (.int .i64 2))), (3, 7, (.slot 3))] },
        { dst := none, op := .storeA 11 (.slot 2) (.slot 4) }])
     (.ret))
  res := [.cell 2 11 true]
  keepOwn := false

/-- lispprover/lispproverref8.App -/
def F30 (I J : Nat → Nat) : AFunc where
  code := .seq (.reg false [
       { dst := some 2, op := .box (.slot 0) },
       { dst := some 4, op := .alloc [.int .i64 0, .str [], .str [], .int .i64 0, .str [], .str [], .str [], .str [], .str [], .slice [], .slice []] }])
    (.seq (.reg false [
        { dst := some 5, op := .loadA 2 (.slot 2) },
        { dst := some 6, op := .mv (.slot 1) },
        { dst := some 7, op := .build [.int .i64 0, .str [], .str [], .int .i64 0, .str [], .str [], .str [], .str [], .str [], .slice [], .slice []] [(0, 1, (.lit (.int .i64 3))), (1, 2, (.slot 5)), (10, 1, (.slot 6))] },
        { dst := none, op := .storeA 11 (.slot 4) (.slot 7) }])
     (.ret))
  res := [.cell 4 11 true]
  keepOwn := false

/-- lispprover/lispproverref8.Lisp -/
def F32 (I J : Nat → Nat) : AFunc where
  code := .seq (.reg false [
       { dst := some 4, op := .alloc [.int .i64 0, .str [], .str [], .int .i64 0, .str [], .str [], .str [], .str [], .str [], .slice [], .slice []] }])
    (.seq (.reg false [
        { dst := some 5, op := .mv (.slot 0) },
        { dst := some 6, op := .callP (.lit (.fn (I 73) [])) [(.slot 5)] false false },
        { dst := some 7, op := .mv (.slot 1) },
        { dst := some 8, op := .callP (.lit (.fn (I 30) [])) [(.slot 6), (.slot 7)] false false },
        { dst := none, op := .storeA 11 (.slot 4) (.slot 8) }])
     (.ret))
  res := [.cell 4 11 true]
  keepOwn := false

def F35_0 (I J : Nat → Nat) : AC :=
  .seq (.seq (.reg false [
        { dst := some 12, op := .mv (.slot 6) },
        { dst := some 13, op := .mv (.slot 5) },
        { dst := some 14, op := .lenL (.slot 13) },
        { dst := some 15, op := .bin .lss (.slot 12) (.slot 14) }])
     (.cond (.slot 15)
      (.skip)
      (.exit 0)))
    (.seq (.block 1 (.seq (.reg true [
          { dst := some 18, op := .loadA 11 (.slot 2) },
          { dst := some 19, op := .mv (.slot 5) },
          { dst := some 20, op := .mv (.slot 6) },
          { dst := some 21, op := .iaddr 11 (.slot 19) (.slot 20) },
          { dst := some 22, op := .loadA 11 (.slot 21) },
          { dst := some 23, op := .callP (.lit (.fn (I 35) [])) [(.slot 18), (.slot 22)] false false }])
       (.cond (.slot 23)
        (.seq (.reg false [
            { dst := some 4, op := .mv (.lit (.bool true)) }])
         (.ret))
        (.skip))))
     (.reg false [
        { dst := some 16, op := .mv (.slot 6) },
        { dst := some 17, op := .bin .add (.slot 16) (.lit (.int .i64 1)) },
        { dst := some 6, op := .mv (.slot 17) }]))
/-- lispprover/lispproverref8.Occurs -/
def F35 (I J : Nat → Nat) : AFunc where
  code := .seq (.reg false [
       { dst := some 2, op := .box (.slot 0) },
       { dst := some 3, op := .box (.slot 1) },
       { dst := some 4, op := .mv (.lit (.bool false)) }])
    (.seq (.seq (.reg false [
         { dst := some 7, op := .loadA 11 (.slot 2) },
         { dst := some 8, op := .loadA 11 (.slot 3) },
         { dst := some 9, op := .callP (.lit (.fn (I 15) [])) [(.slot 7), (.slot 8)] false false }])
      (.cond (.slot 9)
       (.seq (.reg false [
           { dst := some 4, op := .mv (.lit (.bool true)) }])
        (.ret))
       (.skip)))
     (.seq (.reg false [
         { dst := some 10, op := .loadA 11 (.slot 3) },
         { dst := some 11, op := .callP (.lit (.fn (I 62) [])) [(.slot 10)] false false },
         { dst := some 5, op := .mv (.slot 11) }])
      (.seq (.seq (.reg false [
           { dst := some 6, op := .mv (.lit (.int .i64 0)) }])
        (.block 0 (.loop [2, 5, 6] [2, 3] (F35_0 I J))))
       (.seq (.reg false [
           { dst := some 4, op := .mv (.lit (.bool false)) }])
        (.ret)))))
  res := [.tmp 4]
  keepOwn := false

def F36_0 (I J : Nat → Nat) : AC :=
  .seq (.seq (.reg false [
        { dst := some 17, op := .mv (.slot 8) },
        { dst := some 18, op := .faddr 10 (.slot 3) },
        { dst := some 19, op := .load1 (.slot 18) },
        { dst := some 20, op := .lenL (.slot 19) },
        { dst := some 21, op := .bin .lss (.slot 17) (.slot 20) }])
     (.cond (.slot 21)
      (.skip)
      (.exit 0)))
    (.seq (.block 1 (.reg true [
         { dst := some 24, op := .mv (.take 7) },
         { dst := some 25, op := .faddr 10 (.slot 3) },
         { dst := some 26, op := .load1 (.slot 25) },
         { dst := some 27, op := .mv (.slot 8) },
         { dst := some 28, op := .iaddr 11 (.slot 26) (.slot 27) },
         { dst := some 29, op := .loadA 11 (.slot 28) },
         { dst := some 30, op := .loadA 11 (.slot 4) },
         { dst := some 31, op := .loadA 11 (.slot 5) },
         { dst := some 32, op := .callP (.lit (.fn (I 36) [])) [(.slot 29), (.slot 30), (.slot 31)] false false },
         { dst := some 33, op := .lits false 11 [(.slot 32)] },
         { dst := some 34, op := .app false false 11 (.take 24) (.slot 33) },
         { dst := some 7, op := .mv (.take 34) }]))
     (.reg false [
        { dst := some 22, op := .mv (.slot 8) },
        { dst := some 23, op := .bin .add (.slot 22) (.lit (.int .i64 1)) },
        { dst := some 8, op := .mv (.slot 23) }]))
/-- lispprover/lispproverref8.Replace -/
def F36 (I J : Nat → Nat) : AFunc where
  code := .seq (.reg false [
       { dst := some 3, op := .box (.slot 0) },
       { dst := some 4, op := .box (.slot 1) },
       { dst := some 5, op := .box (.slot 2) },
       { dst := some 6, op := .alloc [.int .i64 0, .str [], .str [], .int .i64 0, .str [], .str [], .str [], .str [], .str [], .slice [], .slice []] }])
    (.seq (.seq (.reg false [
         { dst := some 9, op := .loadA 11 (.slot 3) },
         { dst := some 10, op := .loadA 11 (.slot 4) },
         { dst := some 11, op := .callP (.lit (.fn (I 15) [])) [(.slot 9), (.slot 10)] false false }])
      (.cond (.slot 11)
       (.seq (.reg false [
           { dst := some 12, op := .loadA 11 (.slot 5) },
           { dst := none, op := .storeA 11 (.slot 6) (.slot 12) }])
        (.ret))
       (.skip)))
     (.seq (.seq (.reg false [
          { dst := some 13, op := .faddr 0 (.slot 3) },
          { dst := some 14, op := .load1 (.slot 13) },
          { dst := some 15, op := .bin .neq (.slot 14) (.lit (.int .i64 3)) }])
       (.cond (.slot 15)
        (.seq (.reg false [
            { dst := some 16, op := .loadA 11 (.slot 3) },
            { dst := none, op := .storeA 11 (.slot 6) (.slot 16) }])
         (.ret))
        (.skip)))
      (.seq (.reg false [
          { dst := some 7, op := .mv (.lit (.onil)) }])
       (.seq (.seq (.reg false [
            { dst := some 8, op := .mv (.lit (.int .i64 0)) }])
         (.block 0 (.loop [3, 4, 5, 6, 7, 8] [3, 4, 5, 6] (F36_0 I J))))
        (.seq (.reg false [
            { dst := some 35, op := .faddr 1 (.slot 3) },
            { dst := some 36, op := .loadA 2 (.slot 35) },
            { dst := some 37, op := .mv (.slot 7) },
            { dst := some 38, op := .callP (.lit (.fn (I 30) [])) [(.slot 36), (.slot 37)] false false },
            { dst := none, op := .storeA 11 (.slot 6) (.slot 38) }])
         (.ret))))))
  res := [.cell 6 11 true]
  keepOwn := false

def F39_0 (I J : Nat → Nat) : AC :=
  .seq (.seq (.reg false [
        { dst := some 8, op := .mv (.slot 6) },
        { dst := some 9, op := .mv (.slot 1) },
        { dst := some 10, op := .lenL (.slot 9) },
        { dst := some 11, op := .bin .lss (.slot 8) (.slot 10) }])
     (.cond (.slot 11)
      (.skip)
      (.exit 0)))
    (.seq (.block 1 (.seq (.reg false [
          { dst := some 14, op := .loadA 11 (.slot 2) },
          { dst := some 15, op := .callP (.lit (.fn (I 62) [])) [(.slot 14)] false false },
          { dst := some 7, op := .mv (.slot 15) }])
       (.seq (.seq (.reg false [
            { dst := some 16, op := .mv (.slot 1) },
            { dst := some 17, op := .mv (.slot 6) },
            { dst := some 18, op := .iaddr 1 (.slot 16) (.slot 17) },
            { dst := some 19, op := .load1 (.slot 18) },
            { dst := some 20, op := .bin .lss (.slot 19) (.lit (.int .i64 0)) },
            { dst := some 21, op := .mv (.slot 20) },
            { dst := some 22, op := .mv (.slot 1), guard := some (21, false) },
            { dst := some 23, op := .mv (.slot 6), guard := some (21, false) },
            { dst := some 24, op := .iaddr 1 (.slot 22) (.slot 23), guard := some (21, false) },
            { dst := some 25, op := .load1 (.slot 24), guard := some (21, false) },
            { dst := some 26, op := .mv (.slot 7), guard := some (21, false) },
            { dst := some 27, op := .lenL (.slot 26), guard := some (21, false) },
            { dst := some 28, op := .bin .geq (.slot 25) (.slot 27), guard := some (21, false) },
            { dst := some 29, op := .pick (.slot 21) (.lit (.bool true)) (.slot 28) }])
         (.cond (.slot 29)
          (.seq (.reg false [
              { dst := some 30, op := .build [.int .i64 0, .str [], .str [], .int .i64 0, .str [], .str [], .str [], .str [], .str [], .slice [], .slice []] [] },
              { dst := none, op := .storeA 11 (.slot 4) (.slot 30) },
              { dst := some 5, op := .mv (.lit (.bool false)) }])
           (.ret))
          (.skip)))
        (.reg false [
           { dst := some 31, op := .mv (.slot 7) },
           { dst := some 32, op := .mv (.slot 1) },
           { dst := some 33, op := .mv (.slot 6) },
           { dst := some 34, op := .iaddr 1 (.slot 32) (.slot 33) },
           { dst := some 35, op := .load1 (.slot 34) },
           { dst := some 36, op := .iaddr 11 (.slot 31) (.slot 35) },
           { dst := some 37, op := .loadA 11 (.slot 36) },
           { dst := none, op := .storeA 11 (.slot 2) (.slot 37) }]))))
     (.reg false [
        { dst := some 12, op := .mv (.slot 6) },
        { dst := some 13, op := .bin .add (.slot 12) (.lit (.int .i64 1)) },
        { dst := some 6, op := .mv (.slot 13) }]))
/-- lispprover/lispproverref8.At -/
def F39 (I J : Nat → Nat) : AFunc where
  code := .seq (.reg false [
       { dst := some 2, op := .box (.slot 0) },
       { dst := some 4, op := .alloc [.int .i64 0, .str [], .str [], .int .i64 0, .str [], .str [], .str [], .str [], .str [], .slice [], .slice []] },
       { dst := some 5, op := .mv (.lit (.bool false)) }])
    (.seq (.seq (.reg false [
         { dst := some 6, op := .mv (.lit (.int .i64 0)) }])
      (.block 0 (.loop [1, 2, 4, 6] [2, 4] (F39_0 I J))))
     (.seq (.reg false [
         { dst := some 38, op := .loadA 11 (.slot 2) },
         { dst := none, op := .storeA 11 (.slot 4) (.slot 38) },
         { dst := some 5, op := .mv (.lit (.bool true)) }])
      (.ret)))
  res := [.cell 4 11 true, .tmp 5]
  keepOwn := false

/-- lispprover/lispproverref8.Put -/
def F41 (I J : Nat → Nat) : AFunc where
  code := .seq (.reg false [
       { dst := some 3, op := .box (.slot 0) },
       { dst := some 5, op := .box (.slot 2) },
       { dst := some 6, op := .alloc [.int .i64 0, .str [], .str [], .int .i64 0, .str [], .str [], .str [], .str [], .str [], .slice [], .slice []] },
       { dst := some 7, op := .mv (.lit (.bool false)) }])
    (.seq (.seq (.reg false [
         { dst := some 12, op := .mv (.slot 1) },
         { dst := some 13, op := .lenL (.slot 12) },
         { dst := some 14, op := .bin .eql (.slot 13) (.lit (.int .i64 0)) }])
      (.cond (.slot 14)
       (.seq (.reg false [
           { dst := some 15, op := .loadA 11 (.slot 5) },
           { dst := none, op := .storeA 11 (.slot 6) (.slot 15) },
           { dst := some 7, op := .mv (.lit (.bool true)) }])
        (.ret))
       (.skip)))
     (.seq (.reg false [
         { dst := some 16, op := .loadA 11 (.slot 3) },
         { dst := some 17, op := .callP (.lit (.fn (I 62) [])) [(.slot 16)] false false },
         { dst := some 8, op := .mv (.slot 17) }])
      (.seq (.seq (.reg false [
           { dst := some 18, op := .mv (.slot 1) },
           { dst := some 19, op := .iaddr 1 (.slot 18) (.lit (.int .i64 0)) },
           { dst := some 20, op := .load1 (.slot 19) },
           { dst := some 21, op := .bin .lss (.slot 20) (.lit (.int .i64 0)) },
           { dst := some 22, op := .mv (.slot 21) },
           { dst := some 23, op := .mv (.slot 1), guard := some (22, false) },
           { dst := some 24, op := .iaddr 1 (.slot 23) (.lit (.int .i64 0)), guard := some (22, false) },
           { dst := some 25, op := .load1 (.slot 24), guard := some (22, false) },
           { dst := some 26, op := .mv (.slot 8), guard := some (22, false) },
           { dst := some 27, op := .lenL (.slot 26), guard := some (22, false) },
           { dst := some 28, op := .bin .geq (.slot 25) (.slot 27), guard := some (22, false) },
           { dst := some 29, op := .pick (.slot 22) (.lit (.bool true)) (.slot 28) }])
        (.cond (.slot 29)
         (.seq (.reg false [
             { dst := some 30, op := .build [.int .i64 0, .str [], .str [], .int .i64 0, .str [], .str [], .str [], .str [], .str [], .slice [], .slice []] [] },
             { dst := none, op := .storeA 11 (.slot 6) (.slot 30) },
             { dst := some 7, op := .mv (.lit (.bool false)) }])
          (.ret))
         (.skip)))
       (.seq (.reg true [
           { dst := some 32, op := .mv (.slot 8) },
           { dst := some 33, op := .mv (.slot 1) },
           { dst := some 34, op := .iaddr 1 (.slot 33) (.lit (.int .i64 0)) },
           { dst := some 35, op := .load1 (.slot 34) },
           { dst := some 36, op := .iaddr 11 (.slot 32) (.slot 35) },
           { dst := some 37, op := .loadA 11 (.slot 36) },
           { dst := some 38, op := .mv (.slot 1) },
           { dst := some 39, op := .slcL 1 (.slot 38) (some (.lit (.int .i64 1))) none },
           { dst := some 40, op := .loadA 11 (.slot 5) },
           { dst := some 41, op := .callP (.lit (.fn (I 41) [])) [(.slot 37), (.slot 39), (.slot 40)] false false },
           { dst := some 31, op := .mv (.take 41) },
           { dst := some 42, op := .extr 31 0 },
           { dst := some 43, op := .extr 31 1 },
           { dst := some 9, op := .alloc [.int .i64 0, .str [], .str [], .int .i64 0, .str [], .str [], .str [], .str [], .str [], .slice [], .slice []] },
           { dst := none, op := .storeAN 11 (.slot 9) (.slot 42) },
           { dst := some 10, op := .mv (.slot 43) }])
        (.seq (.seq (.reg false [
             { dst := some 44, op := .mv (.slot 10) },
             { dst := some 45, op := .un .not (.slot 44) }])
          (.cond (.slot 45)
           (.seq (.reg false [
               { dst := some 46, op := .build [.int .i64 0, .str [], .str [], .int .i64 0, .str [], .str [], .str [], .str [], .str [], .slice [], .slice []] [] },
               { dst := none, op := .storeA 11 (.slot 6) (.slot 46) },
               { dst := some 7, op := .mv (.lit (.bool false)) }])
            (.ret))
           (.skip)))
         (.seq (.reg false [
             { dst := some 47, op := .lits true 11 [] },
             { dst := some 48, op := .mv (.slot 8) },
             { dst := some 49, op := .app false true 11 (.take 47) (.slot 48) },
             { dst := some 11, op := .mv (.slot 49) }])
          (.seq (.reg true [
              { dst := some 50, op := .mv (.slot 11) },
              { dst := some 51, op := .mv (.slot 1) },
              { dst := some 52, op := .iaddr 1 (.slot 51) (.lit (.int .i64 0)) },
              { dst := some 53, op := .load1 (.slot 52) },
              { dst := some 54, op := .loadA 11 (.slot 9) },
              { dst := some 55, op := .iaddr 11 (.slot 50) (.slot 53) },
              { dst := none, op := .storeA 11 (.slot 55) (.slot 54) }])
           (.seq (.reg false [
               { dst := some 56, op := .faddr 1 (.slot 3) },
               { dst := some 57, op := .loadA 2 (.slot 56) },
               { dst := some 58, op := .frz 49 (.slot 11) },
               { dst := some 59, op := .callP (.lit (.fn (I 30) [])) [(.slot 57), (.slot 58)] false false },
               { dst := none, op := .storeA 11 (.slot 6) (.slot 59) },
               { dst := some 7, op := .mv (.lit (.bool true)) }])
            (.ret)))))))))
  res := [.cell 6 11 true, .tmp 7]
  keepOwn := false

/-- lispprover/lispproverref8.Unquote -/
def F43 (I J : Nat → Nat) : AFunc where
  code := .seq (.reg false [
       { dst := some 1, op := .box (.slot 0) },
       { dst := some 2, op := .alloc [.int .i64 0, .str [], .str [], .int .i64 0, .str [], .str [], .str [], .str [], .str [], .slice [], .slice []] },
       { dst := some 3, op := .mv (.lit (.bool false)) }])
    (.seq (.reg false [
        { dst := some 7, op := .loadA 7 (.slot 1) },
        { dst := some 8, op := .callP (.lit (.fn (I 79) [])) [(.slot 7)] false false },
        { dst := some 6, op := .mv (.take 8) },
        { dst := some 9, op := .extr 6 0 },
        { dst := some 10, op := .extr 6 1 },
        { dst := some 4, op := .alloc [.int .i64 0, .str [], .str [], .int .i64 0, .str [], .str [], .str [], .str [], .str [], .slice [], .slice []] },
        { dst := none, op := .storeA 11 (.slot 4) (.slot 9) },
        { dst := some 5, op := .mv (.slot 10) }])
     (.seq (.seq (.reg false [
          { dst := some 11, op := .mv (.slot 5) },
          { dst := some 12, op := .un .not (.slot 11) },
          { dst := some 13, op := .mv (.slot 12) },
          { dst := some 14, op := .loadA 11 (.slot 4), guard := some (13, false) },
          { dst := some 15, op := .callP (.lit (.fn (I 80) [])) [(.slot 14)] false false, guard := some (13, false) },
          { dst := some 16, op := .un .not (.slot 15), guard := some (13, false) },
          { dst := some 17, op := .pick (.slot 13) (.lit (.bool true)) (.slot 16) }])
       (.cond (.slot 17)
        (.seq (.reg false [
            { dst := some 18, op := .build [.int .i64 0, .str [], .str [], .int .i64 0, .str [], .str [], .str [], .str [], .str [], .slice [], .slice []] [] },
            { dst := none, op := .storeA 11 (.slot 2) (.slot 18) },
            { dst := some 3, op := .mv (.lit (.bool false)) }])
         (.ret))
        (.skip)))
      (.seq (.reg false [
          { dst := some 19, op := .loadA 11 (.slot 4) },
          { dst := none, op := .storeA 11 (.slot 2) (.slot 19) },
          { dst := some 3, op := .mv (.lit (.bool true)) }])
       (.ret))))
  res := [.cell 2 11 true, .tmp 3]
  keepOwn := false

def F45_0 (I J : Nat → Nat) : AC :=
  .seq (.seq (.reg false [
        { dst := some 24, op := .mv (.slot 4) },
        { dst := some 25, op := .faddr 10 (.slot 1) },
        { dst := some 26, op := .load1 (.slot 25) },
        { dst := some 27, op := .lenL (.slot 26) },
        { dst := some 28, op := .bin .lss (.slot 24) (.slot 27) }])
     (.cond (.slot 28)
      (.skip)
      (.exit 1)))
    (.seq (.block 2 (.reg false [
         { dst := some 31, op := .mv (.take 3) },
         { dst := some 32, op := .faddr 10 (.slot 1) },
         { dst := some 33, op := .load1 (.slot 32) },
         { dst := some 34, op := .mv (.slot 4) },
         { dst := some 35, op := .iaddr 11 (.slot 33) (.slot 34) },
         { dst := some 36, op := .loadA 11 (.slot 35) },
         { dst := some 37, op := .callP (.lit (.fn (I 45) [])) [(.slot 36)] false false },
         { dst := some 38, op := .lits false 7 [(.slot 37)] },
         { dst := some 39, op := .app false false 7 (.take 31) (.slot 38) },
         { dst := some 3, op := .mv (.take 39) }]))
     (.reg false [
        { dst := some 29, op := .mv (.slot 4) },
        { dst := some 30, op := .bin .add (.slot 29) (.lit (.int .i64 1)) },
        { dst := some 4, op := .mv (.slot 30) }]))
/-- lispprover/lispproverref8.Quote -/
def F45 (I J : Nat → Nat) : AFunc where
  code := .seq (.reg false [
       { dst := some 1, op := .box (.slot 0) },
       { dst := some 2, op := .alloc [.int .i64 0, .str [], .str [], .str [], .str [], .str [], .slice []] }])
    (.seq (.seq (.reg false [
         { dst := some 5, op := .faddr 0 (.slot 1) },
         { dst := some 6, op := .load1 (.slot 5) }])
      (.block 0 (.seq (.reg false [
           { dst := some 8, op := .bin .eql (.slot 6) (.lit (.int .i64 1)) },
           { dst := some 7, op := .mv (.slot 8) }])
        (.cond (.slot 7)
         (.seq (.reg false [
             { dst := some 9, op := .faddr 1 (.slot 1) },
             { dst := some 10, op := .loadA 2 (.slot 9) },
             { dst := some 11, op := .callP (.lit (.fn (I 68) [])) [(.slot 10)] false false },
             { dst := none, op := .storeA 7 (.slot 2) (.slot 11) }])
          (.ret))
         (.seq (.reg false [
             { dst := some 13, op := .bin .eql (.slot 6) (.lit (.int .i64 2)) },
             { dst := some 12, op := .mv (.slot 13) }])
          (.cond (.slot 12)
           (.seq (.reg true [
               { dst := some 14, op := .callP (.lit (.fn (I 73) [])) [(.lit (.str [113, 117, 111, 116, 101]))] false false },
               { dst := some 15, op := .callP (.lit (.fn (I 68) [])) [(.slot 14)] false false },
               { dst := some 16, op := .faddr 3 (.slot 1) },
               { dst := some 17, op := .ldL 1 (some 7) (.slot 16) },
               { dst := some 18, op := .lits false 7 [(.slot 15), (.slot 17)] },
               { dst := some 19, op := .callP (.lit (.fn (I 72) [])) [(.slot 18)] false false },
               { dst := none, op := .stL 2 (some 7) (.slot 2) (.slot 19) }])
            (.ret))
           (.skip)))))))
     (.seq (.reg false [
         { dst := some 20, op := .faddr 1 (.slot 1) },
         { dst := some 21, op := .loadA 2 (.slot 20) },
         { dst := some 22, op := .callP (.lit (.fn (I 68) [])) [(.slot 21)] false false },
         { dst := some 23, op := .lits false 7 [(.slot 22)] },
         { dst := some 3, op := .mv (.take 23) }])
      (.seq (.seq (.reg false [
           { dst := some 4, op := .mv (.lit (.int .i64 0)) }])
        (.block 1 (.loop [1, 2, 3, 4] [1, 2] (F45_0 I J))))
       (.seq (.reg false [
           { dst := some 40, op := .mv (.slot 3) },
           { dst := some 41, op := .callP (.lit (.fn (I 72) [])) [(.slot 40)] false false },
           { dst := none, op := .storeA 7 (.slot 2) (.slot 41) }])
        (.ret)))))
  res := [.cell 2 7 true]
  keepOwn := false

def F54_0 (I J : Nat → Nat) : AC :=
  .seq (.seq (.reg false [
        { dst := some 7, op := .mv (.slot 6) },
        { dst := some 8, op := .mv (.slot 0) },
        { dst := some 9, op := .lenL (.slot 8) },
        { dst := some 10, op := .bin .lss (.slot 7) (.slot 9) }])
     (.cond (.slot 10)
      (.skip)
      (.exit 0)))
    (.seq (.block 1 (.seq (.reg true [
          { dst := some 13, op := .mv (.slot 0) },
          { dst := some 14, op := .mv (.slot 6) },
          { dst := some 15, op := .iaddr 13 (.slot 13) (.slot 14) },
          { dst := some 16, op := .faddr 0 (.slot 15) },
          { dst := some 17, op := .loadA 2 (.slot 16) },
          { dst := some 18, op := .loadA 2 (.slot 3) },
          { dst := some 19, op := .eqA false [0, 0] (.slot 17) (.slot 18) }])
       (.cond (.slot 19)
        (.seq (.reg false [
            { dst := some 20, op := .mv (.slot 0) },
            { dst := some 21, op := .mv (.slot 6) },
            { dst := some 22, op := .iaddr 13 (.slot 20) (.slot 21) },
            { dst := some 23, op := .faddr 2 (.slot 22) },
            { dst := some 24, op := .loadA 11 (.slot 23) },
            { dst := none, op := .storeA 11 (.slot 4) (.slot 24) },
            { dst := some 5, op := .mv (.lit (.bool true)) }])
         (.ret))
        (.skip))))
     (.reg false [
        { dst := some 11, op := .mv (.slot 6) },
        { dst := some 12, op := .bin .add (.slot 11) (.lit (.int .i64 1)) },
        { dst := some 6, op := .mv (.slot 12) }]))
/-- lispprover/lispproverref8.Assigned -/
def F54 (I J : Nat → Nat) : AFunc where
  code := .seq (.reg false [
       { dst := some 3, op := .box (.slot 1) },
       { dst := some 4, op := .alloc [.int .i64 0, .str [], .str [], .int .i64 0, .str [], .str [], .str [], .str [], .str [], .slice [], .slice []] },
       { dst := some 5, op := .mv (.lit (.bool false)) }])
    (.seq (.seq (.reg false [
         { dst := some 6, op := .mv (.lit (.int .i64 0)) }])
      (.block 0 (.loop [0, 3, 4, 6] [3, 4] (F54_0 I J))))
     (.seq (.reg false [
         { dst := some 25, op := .build [.int .i64 0, .str [], .str [], .int .i64 0, .str [], .str [], .str [], .str [], .str [], .slice [], .slice []] [] },
         { dst := none, op := .storeA 11 (.slot 4) (.slot 25) },
         { dst := some 5, op := .mv (.lit (.bool false)) }])
      (.ret)))
  res := [.cell 4 11 true, .tmp 5]
  keepOwn := false

def F55_0 (I J : Nat → Nat) : AC :=
  .seq (.seq (.reg false [
        { dst := some 7, op := .mv (.slot 6) },
        { dst := some 8, op := .mv (.slot 0) },
        { dst := some 9, op := .lenL (.slot 8) },
        { dst := some 10, op := .bin .lss (.slot 7) (.slot 9) }])
     (.cond (.slot 10)
      (.skip)
      (.exit 0)))
    (.seq (.block 1 (.reg false [
         { dst := some 13, op := .mv (.take 5) },
         { dst := some 14, op := .mv (.slot 0) },
         { dst := some 15, op := .mv (.slot 6) },
         { dst := some 16, op := .iaddr 11 (.slot 14) (.slot 15) },
         { dst := some 17, op := .loadA 11 (.slot 16) },
         { dst := some 18, op := .mv (.slot 1) },
         { dst := some 19, op := .callP (.lit (.fn (I 14) [])) [(.slot 17), (.slot 18)] false false },
         { dst := some 20, op := .lits false 11 [(.slot 19)] },
         { dst := some 21, op := .app false false 11 (.take 13) (.slot 20) },
         { dst := some 5, op := .mv (.take 21) }]))
     (.reg false [
        { dst := some 11, op := .mv (.slot 6) },
        { dst := some 12, op := .bin .add (.slot 11) (.lit (.int .i64 1)) },
        { dst := some 6, op := .mv (.slot 12) }]))
/-- lispprover/lispproverref8.SubstituteAll -/
def F55 (I J : Nat → Nat) : AFunc where
  code := .seq (.reg false [
       { dst := some 4, op := .mv (.lit (.slice [])) }])
    (.seq (.reg false [
        { dst := some 5, op := .mv (.lit (.onil)) }])
     (.seq (.seq (.reg false [
          { dst := some 6, op := .mv (.lit (.int .i64 0)) }])
       (.block 0 (.loop [0, 1, 5, 6] [] (F55_0 I J))))
      (.seq (.reg false [
          { dst := some 22, op := .mv (.slot 5) },
          { dst := some 4, op := .mv (.slot 22) }])
       (.ret))))
  res := [.tmp 4]
  keepOwn := false

def F56_0 (I J : Nat → Nat) : AC :=
  .seq (.seq (.reg false [
        { dst := some 11, op := .mv (.slot 5) },
        { dst := some 12, op := .mv (.slot 0) },
        { dst := some 13, op := .lenL (.slot 12) },
        { dst := some 14, op := .bin .lss (.slot 11) (.slot 13) }])
     (.cond (.slot 14)
      (.skip)
      (.exit 0)))
    (.seq (.block 1 (.seq (.reg true [
          { dst := some 17, op := .mv (.slot 0) },
          { dst := some 18, op := .mv (.slot 5) },
          { dst := some 19, op := .iaddr 11 (.slot 17) (.slot 18) },
          { dst := some 20, op := .loadA 11 (.slot 19) },
          { dst := some 21, op := .mv (.slot 1) },
          { dst := some 22, op := .mv (.slot 5) },
          { dst := some 23, op := .iaddr 11 (.slot 21) (.slot 22) },
          { dst := some 24, op := .loadA 11 (.slot 23) },
          { dst := some 25, op := .callP (.lit (.fn (I 15) [])) [(.slot 20), (.slot 24)] false false },
          { dst := some 26, op := .un .not (.slot 25) }])
       (.cond (.slot 26)
        (.seq (.reg false [
            { dst := some 4, op := .mv (.lit (.bool false)) }])
         (.ret))
        (.skip))))
     (.reg false [
        { dst := some 15, op := .mv (.slot 5) },
        { dst := some 16, op := .bin .add (.slot 15) (.lit (.int .i64 1)) },
        { dst := some 5, op := .mv (.slot 16) }]))
/-- lispprover/lispproverref8.EqualAll -/
def F56 (I J : Nat → Nat) : AFunc where
  code := .seq (.reg false [
       { dst := some 4, op := .mv (.lit (.bool false)) }])
    (.seq (.seq (.reg false [
         { dst := some 6, op := .mv (.slot 0) },
         { dst := some 7, op := .lenL (.slot 6) },
         { dst := some 8, op := .mv (.slot 1) },
         { dst := some 9, op := .lenL (.slot 8) },
         { dst := some 10, op := .bin .neq (.slot 7) (.slot 9) }])
      (.cond (.slot 10)
       (.seq (.reg false [
           { dst := some 4, op := .mv (.lit (.bool false)) }])
        (.ret))
       (.skip)))
     (.seq (.seq (.reg false [
          { dst := some 5, op := .mv (.lit (.int .i64 0)) }])
       (.block 0 (.loop [0, 1, 5] [] (F56_0 I J))))
      (.seq (.reg false [
          { dst := some 4, op := .mv (.lit (.bool true)) }])
       (.ret))))
  res := [.tmp 4]
  keepOwn := false

/-- lispprover/lispproverref8.args -/
def F62 (I J : Nat → Nat) : AFunc where
  code := .seq (.reg false [
       { dst := some 1, op := .box (.slot 0) },
       { dst := some 2, op := .mv (.lit (.slice [])) }])
    (.seq (.seq (.reg false [
         { dst := some 3, op := .faddr 0 (.slot 1) },
         { dst := some 4, op := .load1 (.slot 3) },
         { dst := some 5, op := .bin .neq (.slot 4) (.lit (.int .i64 3)) }])
      (.cond (.slot 5)
       (.seq (.reg false [
           { dst := some 2, op := .mv (.lit (.slice [])) }])
        (.ret))
       (.skip)))
     (.seq (.reg false [
         { dst := some 6, op := .faddr 10 (.slot 1) },
         { dst := some 7, op := .load1 (.slot 6) },
         { dst := some 2, op := .mv (.slot 7) }])
      (.ret)))
  res := [.tmp 2]
  keepOwn := false

def F63_0 (I J : Nat → Nat) : AC :=
  .seq (.seq (.reg false [
        { dst := some 6, op := .mv (.slot 5) },
        { dst := some 7, op := .mv (.slot 0) },
        { dst := some 8, op := .lenL (.slot 7) },
        { dst := some 9, op := .bin .lss (.slot 6) (.slot 8) }])
     (.cond (.slot 9)
      (.skip)
      (.exit 0)))
    (.seq (.block 1 (.seq (.reg true [
          { dst := some 12, op := .mv (.slot 0) },
          { dst := some 13, op := .mv (.slot 5) },
          { dst := some 14, op := .iaddr 2 (.slot 12) (.slot 13) },
          { dst := some 15, op := .loadA 2 (.slot 14) },
          { dst := some 16, op := .loadA 2 (.slot 3) },
          { dst := some 17, op := .eqA false [0, 0] (.slot 15) (.slot 16) }])
       (.cond (.slot 17)
        (.seq (.reg false [
            { dst := some 4, op := .mv (.lit (.bool true)) }])
         (.ret))
        (.skip))))
     (.reg false [
        { dst := some 10, op := .mv (.slot 5) },
        { dst := some 11, op := .bin .add (.slot 10) (.lit (.int .i64 1)) },
        { dst := some 5, op := .mv (.slot 11) }]))
/-- lispprover/lispproverref8.Among -/
def F63 (I J : Nat → Nat) : AFunc where
  code := .seq (.reg false [
       { dst := some 3, op := .box (.slot 1) },
       { dst := some 4, op := .mv (.lit (.bool false)) }])
    (.seq (.seq (.reg false [
         { dst := some 5, op := .mv (.lit (.int .i64 0)) }])
      (.block 0 (.loop [0, 3, 5] [3] (F63_0 I J))))
     (.seq (.reg false [
         { dst := some 4, op := .mv (.lit (.bool false)) }])
      (.ret)))
  res := [.tmp 4]
  keepOwn := false

def F79_0 (I J : Nat → Nat) : AC :=
  .seq (.seq (.reg false [
        { dst := some 50, op := .mv (.slot 7) },
        { dst := some 51, op := .mv (.slot 4) },
        { dst := some 52, op := .lenL (.slot 51) },
        { dst := some 53, op := .bin .lss (.slot 50) (.slot 52) }])
     (.cond (.slot 53)
      (.skip)
      (.exit 0)))
    (.seq (.block 1 (.seq (.reg false [
          { dst := some 57, op := .mv (.slot 4) },
          { dst := some 58, op := .mv (.slot 7) },
          { dst := some 59, op := .iaddr 7 (.slot 57) (.slot 58) },
          { dst := some 60, op := .loadA 7 (.slot 59) },
          { dst := some 61, op := .callP (.lit (.fn (I 79) [])) [(.slot 60)] false false },
          { dst := some 56, op := .mv (.take 61) },
          { dst := some 62, op := .extr 56 0 },
          { dst := some 63, op := .extr 56 1 },
          { dst := some 8, op := .alloc [.int .i64 0, .str [], .str [], .int .i64 0, .str [], .str [], .str [], .str [], .str [], .slice [], .slice []] },
          { dst := none, op := .storeA 11 (.slot 8) (.slot 62) },
          { dst := some 9, op := .mv (.slot 63) }])
       (.seq (.seq (.reg false [
            { dst := some 64, op := .mv (.slot 9) },
            { dst := some 65, op := .un .not (.slot 64) }])
         (.cond (.slot 65)
          (.seq (.reg false [
              { dst := some 66, op := .build [.int .i64 0, .str [], .str [], .int .i64 0, .str [], .str [], .str [], .str [], .str [], .slice [], .slice []] [] },
              { dst := none, op := .storeA 11 (.slot 2) (.slot 66) },
              { dst := some 3, op := .mv (.lit (.bool false)) }])
           (.ret))
          (.skip)))
        (.reg false [
           { dst := some 67, op := .mv (.take 6) },
           { dst := some 68, op := .loadA 11 (.slot 8) },
           { dst := some 69, op := .lits false 11 [(.slot 68)] },
           { dst := some 70, op := .app false false 11 (.take 67) (.slot 69) },
           { dst := some 6, op := .mv (.take 70) }]))))
     (.reg false [
        { dst := some 54, op := .mv (.slot 7) },
        { dst := some 55, op := .bin .add (.slot 54) (.lit (.int .i64 1)) },
        { dst := some 7, op := .mv (.slot 55) }]))
/-- lispprover/lispproverref8.unquote -/
def F79 (I J : Nat → Nat) : AFunc where
  code := .seq (.reg false [
       { dst := some 1, op := .box (.slot 0) },
       { dst := some 2, op := .alloc [.int .i64 0, .str [], .str [], .int .i64 0, .str [], .str [], .str [], .str [], .str [], .slice [], .slice []] },
       { dst := some 3, op := .mv (.lit (.bool false)) }])
    (.seq (.seq (.reg false [
         { dst := some 10, op := .faddr 0 (.slot 1) },
         { dst := some 11, op := .load1 (.slot 10) },
         { dst := some 12, op := .bin .eql (.slot 11) (.lit (.int .i64 2)) }])
      (.cond (.slot 12)
       (.seq (.reg false [
           { dst := some 13, op := .faddr 3 (.slot 1) },
           { dst := some 14, op := .loadA 2 (.slot 13) },
           { dst := some 15, op := .callP (.lit (.fn (I 26) [])) [(.slot 14)] false false },
           { dst := none, op := .storeA 11 (.slot 2) (.slot 15) },
           { dst := some 3, op := .mv (.lit (.bool true)) }])
        (.ret))
       (.skip)))
     (.seq (.reg false [
         { dst := some 17, op := .loadA 7 (.slot 1) },
         { dst := some 18, op := .callP (.lit (.fn (I 94) [])) [(.slot 17)] false false },
         { dst := some 16, op := .mv (.take 18) },
         { dst := some 19, op := .extr 16 0 },
         { dst := some 20, op := .extr 16 1 },
         { dst := some 4, op := .mv (.slot 19) },
         { dst := some 5, op := .mv (.slot 20) }])
      (.seq (.seq (.reg false [
           { dst := some 21, op := .mv (.slot 5) },
           { dst := some 22, op := .un .not (.slot 21) },
           { dst := some 23, op := .mv (.slot 22) },
           { dst := some 24, op := .mv (.slot 4), guard := some (23, false) },
           { dst := some 25, op := .lenL (.slot 24), guard := some (23, false) },
           { dst := some 26, op := .bin .eql (.slot 25) (.lit (.int .i64 0)), guard := some (23, false) },
           { dst := some 27, op := .pick (.slot 23) (.lit (.bool true)) (.slot 26) },
           { dst := some 28, op := .mv (.slot 27) },
           { dst := some 29, op := .mv (.slot 4), guard := some (28, false) },
           { dst := some 30, op := .iaddr 7 (.slot 29) (.lit (.int .i64 0)), guard := some (28, false) },
           { dst := some 31, op := .faddr 0 (.slot 30), guard := some (28, false) },
           { dst := some 32, op := .load1 (.slot 31), guard := some (28, false) },
           { dst := some 33, op := .bin .neq (.slot 32) (.lit (.int .i64 2)), guard := some (28, false) },
           { dst := some 34, op := .pick (.slot 28) (.lit (.bool true)) (.slot 33) }])
        (.cond (.slot 34)
         (.seq (.reg false [
             { dst := some 35, op := .build [.int .i64 0, .str [], .str [], .int .i64 0, .str [], .str [], .str [], .str [], .str [], .slice [], .slice []] [] },
             { dst := none, op := .storeA 11 (.slot 2) (.slot 35) },
             { dst := some 3, op := .mv (.lit (.bool false)) }])
          (.ret))
         (.skip)))
       (.seq (.seq (.reg true [
            { dst := some 36, op := .mv (.slot 4) },
            { dst := some 37, op := .iaddr 7 (.slot 36) (.lit (.int .i64 0)) },
            { dst := some 38, op := .faddr 3 (.slot 37) },
            { dst := some 39, op := .loadA 2 (.slot 38) },
            { dst := some 40, op := .callP (.lit (.fn (I 73) [])) [(.lit (.str [113, 117, 111, 116, 101]))] false false },
            { dst := some 41, op := .eqA false [0, 0] (.slot 39) (.slot 40) }])
         (.cond (.slot 41)
          (.seq (.seq (.reg false [
               { dst := some 42, op := .mv (.slot 4) },
               { dst := some 43, op := .lenL (.slot 42) },
               { dst := some 44, op := .bin .neq (.slot 43) (.lit (.int .i64 2)) }])
            (.cond (.slot 44)
             (.seq (.reg false [
                 { dst := some 45, op := .build [.int .i64 0, .str [], .str [], .int .i64 0, .str [], .str [], .str [], .str [], .str [], .slice [], .slice []] [] },
                 { dst := none, op := .storeA 11 (.slot 2) (.slot 45) },
                 { dst := some 3, op := .mv (.lit (.bool false)) }])
              (.ret))
             (.skip)))
           (.seq (.reg false [
               { dst := some 46, op := .mv (.slot 4) },
               { dst := some 47, op := .iaddr 7 (.slot 46) (.lit (.int .i64 1)) },
               { dst := some 48, op := .loadA 7 (.slot 47) },
               { dst := some 49, op := .callP (.lit (.fn (I 28) [])) [(.slot 48)] false false },
               { dst := none, op := .storeA 11 (.slot 2) (.slot 49) },
               { dst := some 3, op := .mv (.lit (.bool true)) }])
            (.ret)))
          (.skip)))
        (.seq (.reg false [
            { dst := some 6, op := .mv (.lit (.onil)) }])
         (.seq (.seq (.reg false [
              { dst := some 7, op := .mv (.lit (.int .i64 1)) }])
           (.block 0 (.loop [2, 4, 6, 7] [1, 2] (F79_0 I J))))
          (.seq (.reg false [
              { dst := some 71, op := .mv (.slot 4) },
              { dst := some 72, op := .iaddr 7 (.slot 71) (.lit (.int .i64 0)) },
              { dst := some 73, op := .faddr 3 (.slot 72) },
              { dst := some 74, op := .loadA 2 (.slot 73) },
              { dst := some 75, op := .mv (.slot 6) },
              { dst := some 76, op := .callP (.lit (.fn (I 30) [])) [(.slot 74), (.slot 75)] false false },
              { dst := none, op := .storeA 11 (.slot 2) (.slot 76) },
              { dst := some 3, op := .mv (.lit (.bool true)) }])
           (.ret))))))))
  res := [.cell 2 11 true, .tmp 3]
  keepOwn := false

/-- lispprover/lispproverref8.Valid -/
def F80 (I J : Nat → Nat) : AFunc where
  code := .seq (.reg false [
       { dst := some 1, op := .box (.slot 0) },
       { dst := some 2, op := .mv (.lit (.bool false)) }])
    (.seq (.reg false [
        { dst := some 3, op := .loadA 11 (.slot 1) },
        { dst := some 4, op := .callP (.lit (.fn (I 95) [])) [(.slot 3)] false false },
        { dst := some 5, op := .bin .leq (.slot 4) (.lit (.int .i64 3000)) },
        { dst := some 6, op := .mv (.slot 5) },
        { dst := some 7, op := .loadA 11 (.slot 1), guard := some (6, true) },
        { dst := some 8, op := .callP (.lit (.fn (I 96) [])) [(.slot 7)] false false, guard := some (6, true) },
        { dst := some 9, op := .bin .leq (.slot 8) (.lit (.int .i64 200)), guard := some (6, true) },
        { dst := some 10, op := .pick (.slot 6) (.slot 9) (.lit (.bool false)) },
        { dst := some 11, op := .mv (.slot 10) },
        { dst := some 12, op := .loadA 11 (.slot 1), guard := some (11, true) },
        { dst := some 13, op := .callP (.lit (.fn (I 97) [])) [(.slot 12)] false false, guard := some (11, true) },
        { dst := some 14, op := .pick (.slot 11) (.slot 13) (.lit (.bool false)) },
        { dst := some 2, op := .mv (.slot 14) }])
     (.ret))
  res := [.tmp 2]
  keepOwn := false

/-- lispprover/lispproverref8.Nodes -/
def F95 (I J : Nat → Nat) : AFunc where
  code := .seq (.reg false [
       { dst := some 1, op := .box (.slot 0) },
       { dst := some 2, op := .mv (.lit (.int .i64 0)) }])
    (.seq (.reg false [
        { dst := some 3, op := .loadA 11 (.slot 1) },
        { dst := some 4, op := .callP (.lit (.fn (I 118) [])) [(.slot 3), (.lit (.int .i64 3001))] false false },
        { dst := some 2, op := .mv (.slot 4) }])
     (.ret))
  res := [.tmp 2]
  keepOwn := false

/-- lispprover/lispproverref8.Depth -/
def F96 (I J : Nat → Nat) : AFunc where
  code := .seq (.reg false [
       { dst := some 1, op := .box (.slot 0) },
       { dst := some 2, op := .mv (.lit (.int .i64 0)) }])
    (.seq (.reg false [
        { dst := some 3, op := .loadA 11 (.slot 1) },
        { dst := some 4, op := .callP (.lit (.fn (I 119) [])) [(.slot 3), (.lit (.int .i64 201))] false false },
        { dst := some 2, op := .mv (.slot 4) }])
     (.ret))
  res := [.tmp 2]
  keepOwn := false

def F97_0 (I J : Nat → Nat) : AC :=
  .seq (.seq (.reg false [
        { dst := some 58, op := .mv (.slot 4) },
        { dst := some 59, op := .faddr 10 (.slot 1) },
        { dst := some 60, op := .load1 (.slot 59) },
        { dst := some 61, op := .lenL (.slot 60) },
        { dst := some 62, op := .bin .lss (.slot 58) (.slot 61) }])
     (.cond (.slot 62)
      (.skip)
      (.exit 1)))
    (.seq (.block 2 (.seq (.reg false [
          { dst := some 65, op := .faddr 10 (.slot 1) },
          { dst := some 66, op := .load1 (.slot 65) },
          { dst := some 67, op := .mv (.slot 4) },
          { dst := some 68, op := .iaddr 11 (.slot 66) (.slot 67) },
          { dst := some 69, op := .loadA 11 (.slot 68) },
          { dst := some 70, op := .callP (.lit (.fn (I 97) [])) [(.slot 69)] false false },
          { dst := some 71, op := .un .not (.slot 70) }])
       (.cond (.slot 71)
        (.seq (.reg false [
            { dst := some 2, op := .mv (.lit (.bool false)) }])
         (.ret))
        (.skip))))
     (.reg false [
        { dst := some 63, op := .mv (.slot 4) },
        { dst := some 64, op := .bin .add (.slot 63) (.lit (.int .i64 1)) },
        { dst := some 4, op := .mv (.slot 64) }]))
/-- lispprover/lispproverref8.formed -/
def F97 (I J : Nat → Nat) : AFunc where
  code := .seq (.reg false [
       { dst := some 1, op := .box (.slot 0) },
       { dst := some 2, op := .mv (.lit (.bool false)) }])
    (.seq (.reg false [
        { dst := some 5, op := .faddr 3 (.slot 1) },
        { dst := some 6, op := .loadA 7 (.slot 5) },
        { dst := some 7, op := .build [.int .i64 0, .str [], .str [], .str [], .str [], .str [], .slice []] [] },
        { dst := some 8, op := .callP (.lit (.fn (I 46) [])) [(.slot 6), (.slot 7)] false false },
        { dst := some 3, op := .mv (.slot 8) }])
     (.seq (.seq (.reg false [
          { dst := some 9, op := .faddr 0 (.slot 1) },
          { dst := some 10, op := .load1 (.slot 9) }])
       (.block 0 (.seq (.reg false [
            { dst := some 12, op := .bin .eql (.slot 10) (.lit (.int .i64 1)) },
            { dst := some 11, op := .mv (.slot 12) }])
         (.cond (.slot 11)
          (.seq (.reg false [
              { dst := some 13, op := .mv (.slot 3) },
              { dst := some 14, op := .mv (.slot 13) },
              { dst := some 15, op := .faddr 1 (.slot 1), guard := some (14, true) },
              { dst := some 16, op := .loadA 2 (.slot 15), guard := some (14, true) },
              { dst := some 17, op := .callP (.lit (.fn (I 120) [])) [(.slot 16)] false false, guard := some (14, true) },
              { dst := some 18, op := .pick (.slot 14) (.slot 17) (.lit (.bool false)) },
              { dst := some 19, op := .mv (.slot 18) },
              { dst := some 20, op := .faddr 10 (.slot 1), guard := some (19, true) },
              { dst := some 21, op := .load1 (.slot 20), guard := some (19, true) },
              { dst := some 22, op := .lenL (.slot 21), guard := some (19, true) },
              { dst := some 23, op := .bin .eql (.slot 22) (.lit (.int .i64 0)), guard := some (19, true) },
              { dst := some 24, op := .pick (.slot 19) (.slot 23) (.lit (.bool false)) },
              { dst := some 2, op := .mv (.slot 24) }])
           (.ret))
          (.seq (.reg false [
              { dst := some 26, op := .bin .eql (.slot 10) (.lit (.int .i64 2)) },
              { dst := some 25, op := .mv (.slot 26) }])
           (.cond (.slot 25)
            (.seq (.reg false [
                { dst := some 27, op := .faddr 1 (.slot 1) },
                { dst := some 28, op := .loadA 2 (.slot 27) },
                { dst := some 29, op := .build [.str [], .str []] [] },
                { dst := some 30, op := .eqA false [0, 0] (.slot 28) (.slot 29) },
                { dst := some 31, op := .mv (.slot 30) },
                { dst := some 32, op := .faddr 3 (.slot 1), guard := some (31, true) },
                { dst := some 33, op := .loadA 7 (.slot 32), guard := some (31, true) },
                { dst := some 34, op := .callP (.lit (.fn (I 121) [])) [(.slot 33)] false false, guard := some (31, true) },
                { dst := some 35, op := .pick (.slot 31) (.slot 34) (.lit (.bool false)) },
                { dst := some 36, op := .mv (.slot 35) },
                { dst := some 37, op := .faddr 10 (.slot 1), guard := some (36, true) },
                { dst := some 38, op := .load1 (.slot 37), guard := some (36, true) },
                { dst := some 39, op := .lenL (.slot 38), guard := some (36, true) },
                { dst := some 40, op := .bin .eql (.slot 39) (.lit (.int .i64 0)), guard := some (36, true) },
                { dst := some 41, op := .pick (.slot 36) (.slot 40) (.lit (.bool false)) },
                { dst := some 2, op := .mv (.slot 41) }])
             (.ret))
            (.seq (.reg false [
                { dst := some 43, op := .bin .eql (.slot 10) (.lit (.int .i64 3)) },
                { dst := some 42, op := .mv (.slot 43) }])
             (.cond (.slot 42)
              (.seq (.seq (.reg false [
                   { dst := some 44, op := .mv (.slot 3) },
                   { dst := some 45, op := .un .not (.slot 44) },
                   { dst := some 46, op := .mv (.slot 45) },
                   { dst := some 47, op := .faddr 1 (.slot 1), guard := some (46, false) },
                   { dst := some 48, op := .loadA 2 (.slot 47), guard := some (46, false) },
                   { dst := some 49, op := .callP (.lit (.fn (I 122) [])) [(.slot 48)] false false, guard := some (46, false) },
                   { dst := some 50, op := .un .not (.slot 49), guard := some (46, false) },
                   { dst := some 51, op := .pick (.slot 46) (.lit (.bool true)) (.slot 50) },
                   { dst := some 52, op := .mv (.slot 51) },
                   { dst := some 53, op := .faddr 10 (.slot 1), guard := some (52, false) },
                   { dst := some 54, op := .load1 (.slot 53), guard := some (52, false) },
                   { dst := some 55, op := .lenL (.slot 54), guard := some (52, false) },
                   { dst := some 56, op := .bin .gtr (.slot 55) (.lit (.int .i64 8)), guard := some (52, false) },
                   { dst := some 57, op := .pick (.slot 52) (.lit (.bool true)) (.slot 56) }])
                (.cond (.slot 57)
                 (.seq (.reg false [
                     { dst := some 2, op := .mv (.lit (.bool false)) }])
                  (.ret))
                 (.skip)))
               (.seq (.seq (.reg false [
                    { dst := some 4, op := .mv (.lit (.int .i64 0)) }])
                 (.block 1 (.loop [1, 4] [1] (F97_0 I J))))
                (.seq (.reg false [
                    { dst := some 2, op := .mv (.lit (.bool true)) }])
                 (.ret))))
              (.skip)))))))))
      (.seq (.reg false [
          { dst := some 2, op := .mv (.lit (.bool false)) }])
       (.ret))))
  res := [.tmp 2]
  keepOwn := false

def F118_0 (I J : Nat → Nat) : AC :=
  .seq (.seq (.reg false [
        { dst := some 18, op := .mv (.slot 7) },
        { dst := some 19, op := .mv (.slot 6) },
        { dst := some 20, op := .lenL (.slot 19) },
        { dst := some 21, op := .bin .lss (.slot 18) (.slot 20) },
        { dst := some 22, op := .mv (.slot 21) },
        { dst := some 23, op := .mv (.slot 5), guard := some (22, true) },
        { dst := some 24, op := .mv (.slot 1), guard := some (22, true) },
        { dst := some 25, op := .bin .lss (.slot 23) (.slot 24), guard := some (22, true) },
        { dst := some 26, op := .pick (.slot 22) (.slot 25) (.lit (.bool false)) }])
     (.cond (.slot 26)
      (.skip)
      (.exit 0)))
    (.seq (.block 1 (.reg false [
         { dst := some 29, op := .mv (.slot 5) },
         { dst := some 30, op := .mv (.slot 6) },
         { dst := some 31, op := .mv (.slot 7) },
         { dst := some 32, op := .iaddr 11 (.slot 30) (.slot 31) },
         { dst := some 33, op := .loadA 11 (.slot 32) },
         { dst := some 34, op := .mv (.slot 1) },
         { dst := some 35, op := .mv (.slot 5) },
         { dst := some 36, op := .bin .sub (.slot 34) (.slot 35) },
         { dst := some 37, op := .callP (.lit (.fn (I 118) [])) [(.slot 33), (.slot 36)] false false },
         { dst := some 38, op := .bin .add (.slot 29) (.slot 37) },
         { dst := some 5, op := .mv (.slot 38) }]))
     (.reg false [
        { dst := some 27, op := .mv (.slot 7) },
        { dst := some 28, op := .bin .add (.slot 27) (.lit (.int .i64 1)) },
        { dst := some 7, op := .mv (.slot 28) }]))
/-- lispprover/lispproverref8.count -/
def F118 (I J : Nat → Nat) : AFunc where
  code := .seq (.reg false [
       { dst := some 2, op := .box (.slot 0) },
       { dst := some 4, op := .mv (.lit (.int .i64 0)) }])
    (.seq (.seq (.reg false [
         { dst := some 8, op := .faddr 0 (.slot 2) },
         { dst := some 9, op := .load1 (.slot 8) },
         { dst := some 10, op := .bin .eql (.slot 9) (.lit (.int .i64 2)) }])
      (.cond (.slot 10)
       (.seq (.reg false [
           { dst := some 11, op := .mv (.slot 1) },
           { dst := some 12, op := .faddr 3 (.slot 2) },
           { dst := some 13, op := .loadA 7 (.slot 12) },
           { dst := some 14, op := .callP (.lit (.fn (I 133) [])) [(.slot 13)] false false },
           { dst := some 15, op := .mn (.slot 11) (.slot 14) },
           { dst := some 4, op := .mv (.slot 15) }])
        (.ret))
       (.skip)))
     (.seq (.reg false [
         { dst := some 5, op := .mv (.lit (.int .i64 1)) }])
      (.seq (.reg false [
          { dst := some 16, op := .loadA 11 (.slot 2) },
          { dst := some 17, op := .callP (.lit (.fn (I 62) [])) [(.slot 16)] false false },
          { dst := some 6, op := .mv (.slot 17) }])
       (.seq (.seq (.reg false [
            { dst := some 7, op := .mv (.lit (.int .i64 0)) }])
         (.block 0 (.loop [1, 5, 6, 7] [2] (F118_0 I J))))
        (.seq (.reg false [
            { dst := some 39, op := .mv (.slot 5) },
            { dst := some 4, op := .mv (.slot 39) }])
         (.ret))))))
  res := [.tmp 4]
  keepOwn := false

def F119_0 (I J : Nat → Nat) : AC :=
  .seq (.seq (.reg false [
        { dst := some 10, op := .mv (.slot 7) },
        { dst := some 11, op := .mv (.slot 6) },
        { dst := some 12, op := .lenL (.slot 11) },
        { dst := some 13, op := .bin .lss (.slot 10) (.slot 12) },
        { dst := some 14, op := .mv (.slot 13) },
        { dst := some 15, op := .mv (.slot 1), guard := some (14, true) },
        { dst := some 16, op := .bin .gtr (.slot 15) (.lit (.int .i64 1)), guard := some (14, true) },
        { dst := some 17, op := .pick (.slot 14) (.slot 16) (.lit (.bool false)) }])
     (.cond (.slot 17)
      (.skip)
      (.exit 0)))
    (.seq (.block 1 (.reg false [
         { dst := some 20, op := .mv (.slot 5) },
         { dst := some 21, op := .mv (.slot 6) },
         { dst := some 22, op := .mv (.slot 7) },
         { dst := some 23, op := .iaddr 11 (.slot 21) (.slot 22) },
         { dst := some 24, op := .loadA 11 (.slot 23) },
         { dst := some 25, op := .mv (.slot 1) },
         { dst := some 26, op := .bin .sub (.slot 25) (.lit (.int .i64 1)) },
         { dst := some 27, op := .callP (.lit (.fn (I 119) [])) [(.slot 24), (.slot 26)] false false },
         { dst := some 28, op := .mx (.slot 20) (.slot 27) },
         { dst := some 5, op := .mv (.slot 28) }]))
     (.reg false [
        { dst := some 18, op := .mv (.slot 7) },
        { dst := some 19, op := .bin .add (.slot 18) (.lit (.int .i64 1)) },
        { dst := some 7, op := .mv (.slot 19) }]))
/-- lispprover/lispproverref8.deep -/
def F119 (I J : Nat → Nat) : AFunc where
  code := .seq (.reg false [
       { dst := some 2, op := .box (.slot 0) },
       { dst := some 4, op := .mv (.lit (.int .i64 0)) }])
    (.seq (.reg false [
        { dst := some 5, op := .mv (.lit (.int .i64 0)) }])
     (.seq (.reg false [
         { dst := some 8, op := .loadA 11 (.slot 2) },
         { dst := some 9, op := .callP (.lit (.fn (I 62) [])) [(.slot 8)] false false },
         { dst := some 6, op := .mv (.slot 9) }])
      (.seq (.seq (.reg false [
           { dst := some 7, op := .mv (.lit (.int .i64 0)) }])
        (.block 0 (.loop [1, 5, 6, 7] [2] (F119_0 I J))))
       (.seq (.reg false [
           { dst := some 29, op := .mv (.slot 5) },
           { dst := some 30, op := .bin .add (.slot 29) (.lit (.int .i64 1)) },
           { dst := some 4, op := .mv (.slot 30) }])
        (.ret)))))
  res := [.tmp 4]
  keepOwn := false

/-- lispprover/lispproverref8.Variable -/
def F120 (I J : Nat → Nat) : AFunc where
  code := .seq (.reg false [
       { dst := some 1, op := .box (.slot 0) },
       { dst := some 2, op := .mv (.lit (.bool false)) }])
    (.seq (.reg true [
        { dst := some 3, op := .loadA 2 (.slot 1) },
        { dst := some 4, op := .callP (.lit (.fn (I 122) [])) [(.slot 3)] false false },
        { dst := some 5, op := .mv (.slot 4) },
        { dst := some 6, op := .loadA 2 (.slot 1), guard := some (5, true) },
        { dst := some 7, op := .callP (.lit (.fn (I 73) [])) [(.lit (.str [110, 105, 108]))] false false, guard := some (5, true) },
        { dst := some 8, op := .eqA true [0, 0] (.slot 6) (.slot 7), guard := some (5, true) },
        { dst := some 9, op := .pick (.slot 5) (.slot 8) (.lit (.bool false)) },
        { dst := some 10, op := .mv (.slot 9) },
        { dst := some 11, op := .loadA 2 (.slot 1), guard := some (10, true) },
        { dst := some 12, op := .callP (.lit (.fn (I 73) [])) [(.lit (.str [116]))] false false, guard := some (10, true) },
        { dst := some 13, op := .eqA true [0, 0] (.slot 11) (.slot 12), guard := some (10, true) },
        { dst := some 14, op := .pick (.slot 10) (.slot 13) (.lit (.bool false)) },
        { dst := some 2, op := .mv (.slot 14) }])
     (.ret))
  res := [.tmp 2]
  keepOwn := false

end Go.Vs.C

namespace Go.Vs.C
open Go Go.Vs
set_option maxRecDepth 100000
set_option linter.unusedVariables false
def F130_0 (I J : Nat → Nat) : AC :=
  .seq (.reg false [
       { dst := some 19, op := .bin .lss (.slot 18) (.slot 17) }])
    (.seq (.cond (.slot 19)
      (.skip)
      (.exit 0))
     (.seq (.block 1 (.seq (.reg false [
           { dst := some 20, op := .mv (.slot 18) },
           { dst := some 4, op := .mv (.slot 20) }])
        (.seq (.reg false [
            { dst := some 21, op := .mv (.slot 3) },
            { dst := some 22, op := .mv (.slot 4) },
            { dst := some 23, op := .idxS (.slot 21) (.slot 22) },
            { dst := some 24, op := .bin .lss (.slot 23) (.lit (.int .u8 48)) },
            { dst := some 25, op := .mv (.slot 24) },
            { dst := some 26, op := .mv (.slot 3), guard := some (25, false) },
            { dst := some 27, op := .mv (.slot 4), guard := some (25, false) },
            { dst := some 28, op := .idxS (.slot 26) (.slot 27), guard := some (25, false) },
            { dst := some 29, op := .bin .gtr (.slot 28) (.lit (.int .u8 57)), guard := some (25, false) },
            { dst := some 30, op := .pick (.slot 25) (.lit (.bool true)) (.slot 29) }])
         (.cond (.slot 30)
          (.seq (.reg false [
              { dst := some 2, op := .mv (.lit (.bool false)) }])
           (.ret))
          (.skip)))))
      (.reg false [
         { dst := some 31, op := .bin .add (.slot 18) (.lit (.int .i64 1)) },
         { dst := some 18, op := .mv (.slot 31) }])))
/-- lispprover/number.Valid -/
def F130 (I J : Nat → Nat) : AFunc where
  code := .seq (.reg false [
       { dst := some 2, op := .mv (.lit (.bool false)) }])
    (.seq (.reg false [
        { dst := some 5, op := .mv (.slot 0) },
        { dst := some 6, op := .callP (.lit (.fn (I 136) [])) [(.slot 5), (.lit (.str [45]))] false false },
        { dst := some 3, op := .mv (.slot 6) }])
     (.seq (.seq (.reg false [
          { dst := some 7, op := .mv (.slot 3) },
          { dst := some 8, op := .bin .eql (.slot 7) (.lit (.str [])) },
          { dst := some 9, op := .mv (.slot 8) },
          { dst := some 10, op := .mv (.slot 3), guard := some (9, false) },
          { dst := some 11, op := .idxS (.slot 10) (.lit (.int .i64 0)), guard := some (9, false) },
          { dst := some 12, op := .bin .eql (.slot 11) (.lit (.int .u8 48)), guard := some (9, false) },
          { dst := some 13, op := .pick (.slot 9) (.lit (.bool true)) (.slot 12) }])
       (.cond (.slot 13)
        (.seq (.reg false [
            { dst := some 14, op := .mv (.slot 0) },
            { dst := some 15, op := .bin .eql (.slot 14) (.lit (.str [48])) },
            { dst := some 2, op := .mv (.slot 15) }])
         (.ret))
        (.skip)))
      (.seq (.seq (.reg false [
           { dst := some 16, op := .mv (.slot 3) },
           { dst := some 17, op := .lenS (.slot 16) },
           { dst := some 18, op := .mv (.lit (.int .i64 0)) }])
        (.block 0 (.loop [3, 17, 18] [] (F130_0 I J))))
       (.seq (.reg false [
           { dst := some 2, op := .mv (.lit (.bool true)) }])
        (.ret)))))
  res := [.tmp 2]
  keepOwn := false

/-- lispprover/number.Digits -/
def F131 (I J : Nat → Nat) : AFunc where
  code := .seq (.reg false [
       { dst := some 2, op := .mv (.lit (.int .i64 0)) }])
    (.seq (.reg false [
        { dst := some 3, op := .mv (.slot 0) },
        { dst := some 4, op := .callP (.lit (.fn (I 137) [])) [(.slot 3)] false false },
        { dst := some 5, op := .callP (.lit (.fn (I 136) [])) [(.slot 4), (.lit (.str [45]))] false false },
        { dst := some 6, op := .lenS (.slot 5) },
        { dst := some 2, op := .mv (.slot 6) }])
     (.ret))
  res := [.tmp 2]
  keepOwn := false

/-- lispprover/number.Reduce -/
def F132 (I J : Nat → Nat) : AFunc where
  code := .seq (.reg false [
       { dst := some 4, op := .mv (.lit (.str [])) },
       { dst := some 5, op := .mv (.lit (.str [])) }])
    (.seq (.reg false [
        { dst := some 11, op := .mv (.slot 0) },
        { dst := some 12, op := .callP (.lit (.fn (I 137) [])) [(.slot 11)] false false },
        { dst := some 13, op := .mv (.slot 1) },
        { dst := some 14, op := .callP (.lit (.fn (I 137) [])) [(.slot 13)] false false },
        { dst := some 0, op := .mv (.slot 12) },
        { dst := some 1, op := .mv (.slot 14) }])
     (.seq (.block 0 (.seq (.reg false [
           { dst := some 16, op := .mv (.slot 1) },
           { dst := some 17, op := .bin .eql (.slot 16) (.lit (.str [48])) },
           { dst := some 15, op := .mv (.slot 17) }])
        (.cond (.slot 15)
         (.seq (.reg false [
             { dst := some 4, op := .mv (.lit (.str [48])) },
             { dst := some 5, op := .mv (.lit (.str [49])) }])
          (.ret))
         (.seq (.reg false [
             { dst := some 19, op := .mv (.slot 1) },
             { dst := some 20, op := .bin .eql (.slot 19) (.lit (.str [49])) },
             { dst := some 18, op := .mv (.slot 20) }])
          (.cond (.slot 18)
           (.seq (.reg false [
               { dst := some 21, op := .mv (.slot 0) },
               { dst := some 22, op := .mv (.slot 1) },
               { dst := some 4, op := .mv (.slot 21) },
               { dst := some 5, op := .mv (.slot 22) }])
            (.ret))
           (.seq (.reg false [
               { dst := some 24, op := .mv (.slot 1) },
               { dst := some 25, op := .idxS (.slot 24) (.lit (.int .i64 0)) },
               { dst := some 26, op := .bin .eql (.slot 25) (.lit (.int .u8 45)) },
               { dst := some 23, op := .mv (.slot 26) }])
            (.cond (.slot 23)
             (.reg false [
                { dst := some 27, op := .mv (.slot 0) },
                { dst := some 28, op := .callP (.lit (.fn (I 138) [])) [(.slot 27)] false false },
                { dst := some 29, op := .mv (.slot 1) },
                { dst := some 30, op := .callP (.lit (.fn (I 138) [])) [(.slot 29)] false false },
                { dst := some 0, op := .mv (.slot 28) },
                { dst := some 1, op := .mv (.slot 30) }])
             (.skip))))))))
      (.seq (.reg false [
          { dst := some 31, op := .mv (.slot 0) },
          { dst := some 32, op := .mv (.slot 1) },
          { dst := some 33, op := .callP (.lit (.fn (I 139) [])) [(.slot 31), (.slot 32)] false false },
          { dst := some 6, op := .mv (.slot 33) }])
       (.seq (.seq (.reg false [
            { dst := some 34, op := .mv (.slot 6) },
            { dst := some 35, op := .bin .eql (.slot 34) (.lit (.str [49])) }])
         (.cond (.slot 35)
          (.seq (.reg false [
              { dst := some 36, op := .mv (.slot 0) },
              { dst := some 37, op := .mv (.slot 1) },
              { dst := some 4, op := .mv (.slot 36) },
              { dst := some 5, op := .mv (.slot 37) }])
           (.ret))
          (.skip)))
        (.seq (.reg false [
            { dst := some 39, op := .mv (.slot 0) },
            { dst := some 40, op := .mv (.slot 6) },
            { dst := some 41, op := .callP (.lit (.fn (I 140) [])) [(.slot 39), (.slot 40)] false false },
            { dst := some 38, op := .mv (.take 41) },
            { dst := some 42, op := .extr 38 0 },
            { dst := some 43, op := .extr 38 1 },
            { dst := some 7, op := .mv (.slot 42) },
            { dst := some 8, op := .mv (.slot 43) }])
         (.seq (.reg false [
             { dst := some 45, op := .mv (.slot 1) },
             { dst := some 46, op := .mv (.slot 6) },
             { dst := some 47, op := .callP (.lit (.fn (I 140) [])) [(.slot 45), (.slot 46)] false false },
             { dst := some 44, op := .mv (.take 47) },
             { dst := some 48, op := .extr 44 0 },
             { dst := some 49, op := .extr 44 1 },
             { dst := some 9, op := .mv (.slot 48) },
             { dst := some 10, op := .mv (.slot 49) }])
          (.seq (.reg false [
              { dst := some 50, op := .mv (.slot 7) },
              { dst := some 51, op := .mv (.slot 9) },
              { dst := some 4, op := .mv (.slot 50) },
              { dst := some 5, op := .mv (.slot 51) }])
           (.ret))))))))
  res := [.tmp 4, .tmp 5]
  keepOwn := false

/-- lispprover/number.decimal -/
def F137 (I J : Nat → Nat) : AFunc where
  code := .seq (.reg false [
       { dst := some 2, op := .mv (.lit (.str [])) }])
    (.seq (.seq (.reg false [
         { dst := some 3, op := .mv (.slot 0) },
         { dst := some 4, op := .callP (.lit (.fn (I 130) [])) [(.slot 3)] false false }])
      (.cond (.slot 4)
       (.seq (.reg false [
           { dst := some 5, op := .mv (.slot 0) },
           { dst := some 2, op := .mv (.slot 5) }])
        (.ret))
       (.skip)))
     (.seq (.reg false [
         { dst := some 2, op := .mv (.lit (.str [48])) }])
      (.ret)))
  res := [.tmp 2]
  keepOwn := false

/-- lispprover/number.Negate -/
def F138 (I J : Nat → Nat) : AFunc where
  code := .seq (.reg false [
       { dst := some 2, op := .mv (.lit (.str [])) }])
    (.seq (.reg false [
        { dst := some 3, op := .mv (.slot 0) },
        { dst := some 4, op := .callP (.lit (.fn (I 137) [])) [(.slot 3)] false false },
        { dst := some 0, op := .mv (.slot 4) }])
     (.seq (.block 0 (.seq (.reg false [
           { dst := some 6, op := .mv (.slot 0) },
           { dst := some 7, op := .bin .eql (.slot 6) (.lit (.str [48])) },
           { dst := some 5, op := .mv (.slot 7) }])
        (.cond (.slot 5)
         (.seq (.reg false [
             { dst := some 8, op := .mv (.slot 0) },
             { dst := some 2, op := .mv (.slot 8) }])
          (.ret))
         (.seq (.reg false [
             { dst := some 10, op := .mv (.slot 0) },
             { dst := some 11, op := .idxS (.slot 10) (.lit (.int .i64 0)) },
             { dst := some 12, op := .bin .eql (.slot 11) (.lit (.int .u8 45)) },
             { dst := some 9, op := .mv (.slot 12) }])
          (.cond (.slot 9)
           (.seq (.reg false [
               { dst := some 13, op := .mv (.slot 0) },
               { dst := some 14, op := .slcS (.slot 13) (some (.lit (.int .i64 1))) none },
               { dst := some 2, op := .mv (.slot 14) }])
            (.ret))
           (.skip))))))
      (.seq (.reg false [
          { dst := some 15, op := .mv (.slot 0) },
          { dst := some 16, op := .bin .add (.lit (.str [45])) (.slot 15) },
          { dst := some 2, op := .mv (.slot 16) }])
       (.ret))))
  res := [.tmp 2]
  keepOwn := false

def F139_0 (I J : Nat → Nat) : AC :=
  .seq (.seq (.reg false [
        { dst := some 15, op := .mv (.slot 6) },
        { dst := some 16, op := .lenL (.slot 15) },
        { dst := some 17, op := .bin .gtr (.slot 16) (.lit (.int .i64 0)) }])
     (.cond (.slot 17)
      (.skip)
      (.exit 0)))
    (.block 1 (.seq (.reg false [
         { dst := some 19, op := .mv (.slot 5) },
         { dst := some 20, op := .mv (.slot 6) },
         { dst := some 21, op := .callP (.lit (.fn (I 146) [])) [(.slot 19), (.slot 20)] false false },
         { dst := some 18, op := .mv (.take 21) },
         { dst := some 22, op := .extr 18 0 },
         { dst := some 23, op := .extr 18 1 },
         { dst := some 7, op := .mv (.slot 22) },
         { dst := some 8, op := .mv (.slot 23) }])
      (.reg false [
         { dst := some 24, op := .mv (.slot 6) },
         { dst := some 25, op := .mv (.slot 8) },
         { dst := some 5, op := .mv (.slot 24) },
         { dst := some 6, op := .mv (.slot 25) }])))
/-- lispprover/number.Gcd -/
def F139 (I J : Nat → Nat) : AFunc where
  code := .seq (.reg false [
       { dst := some 4, op := .mv (.lit (.str [])) }])
    (.seq (.reg false [
        { dst := some 9, op := .mv (.slot 0) },
        { dst := some 10, op := .callP (.lit (.fn (I 145) [])) [(.slot 9)] false false },
        { dst := some 11, op := .fld false 1 1 (.slot 10) },
        { dst := some 12, op := .mv (.slot 1) },
        { dst := some 13, op := .callP (.lit (.fn (I 145) [])) [(.slot 12)] false false },
        { dst := some 14, op := .fld false 1 1 (.slot 13) },
        { dst := some 5, op := .mv (.slot 11) },
        { dst := some 6, op := .mv (.slot 14) }])
     (.seq (.block 0 (.loop [5, 6] [] (F139_0 I J)))
      (.seq (.reg false [
          { dst := some 26, op := .mv (.slot 5) },
          { dst := some 27, op := .build [.bool false, .slice []] [(0, 1, (.lit (.bool false))), (1, 1, (.slot 26))] },
          { dst := some 28, op := .callP (.lit (.fn (I 147) [])) [(.slot 27)] false false },
          { dst := some 4, op := .mv (.slot 28) }])
       (.ret))))
  res := [.tmp 4]
  keepOwn := false

/-- lispprover/number.Divide -/
def F140 (I J : Nat → Nat) : AFunc where
  code := .seq (.reg false [
       { dst := some 4, op := .mv (.lit (.str [])) },
       { dst := some 5, op := .mv (.lit (.str [])) }])
    (.seq (.reg false [
        { dst := some 12, op := .mv (.slot 0) },
        { dst := some 13, op := .callP (.lit (.fn (I 145) [])) [(.slot 12)] false false },
        { dst := some 14, op := .mv (.slot 1) },
        { dst := some 15, op := .callP (.lit (.fn (I 145) [])) [(.slot 14)] false false },
        { dst := some 6, op := .alloc [.bool false, .slice []] },
        { dst := some 7, op := .alloc [.bool false, .slice []] },
        { dst := none, op := .storeA 2 (.slot 6) (.slot 13) },
        { dst := none, op := .storeA 2 (.slot 7) (.slot 15) }])
     (.seq (.seq (.reg false [
          { dst := some 16, op := .faddr 1 (.slot 7) },
          { dst := some 17, op := .load1 (.slot 16) },
          { dst := some 18, op := .lenL (.slot 17) },
          { dst := some 19, op := .bin .eql (.slot 18) (.lit (.int .i64 0)) }])
       (.cond (.slot 19)
        (.seq (.reg false [
            { dst := some 20, op := .mv (.slot 0) },
            { dst := some 21, op := .callP (.lit (.fn (I 137) [])) [(.slot 20)] false false },
            { dst := some 4, op := .mv (.lit (.str [48])) },
            { dst := some 5, op := .mv (.slot 21) }])
         (.ret))
        (.skip)))
      (.seq (.reg false [
          { dst := some 23, op := .faddr 1 (.slot 6) },
          { dst := some 24, op := .load1 (.slot 23) },
          { dst := some 25, op := .faddr 1 (.slot 7) },
          { dst := some 26, op := .load1 (.slot 25) },
          { dst := some 27, op := .callP (.lit (.fn (I 146) [])) [(.slot 24), (.slot 26)] false false },
          { dst := some 22, op := .mv (.take 27) },
          { dst := some 28, op := .extr 22 0 },
          { dst := some 29, op := .extr 22 1 },
          { dst := some 8, op := .mv (.slot 28) },
          { dst := some 9, op := .mv (.slot 29) }])
       (.seq (.reg true [
           { dst := some 30, op := .faddr 0 (.slot 6) },
           { dst := some 31, op := .load1 (.slot 30) },
           { dst := some 32, op := .faddr 0 (.slot 7) },
           { dst := some 33, op := .load1 (.slot 32) },
           { dst := some 34, op := .eqb true (.slot 31) (.slot 33) },
           { dst := some 35, op := .mv (.slot 8) },
           { dst := some 36, op := .build [.bool false, .slice []] [(0, 1, (.slot 34)), (1, 1, (.slot 35))] },
           { dst := some 37, op := .faddr 0 (.slot 7) },
           { dst := some 38, op := .load1 (.slot 37) },
           { dst := some 39, op := .mv (.slot 9) },
           { dst := some 40, op := .build [.bool false, .slice []] [(0, 1, (.slot 38)), (1, 1, (.slot 39))] },
           { dst := some 10, op := .alloc [.bool false, .slice []] },
           { dst := some 11, op := .alloc [.bool false, .slice []] },
           { dst := none, op := .storeAN 2 (.slot 10) (.slot 36) },
           { dst := none, op := .storeAN 2 (.slot 11) (.slot 40) }])
        (.seq (.seq (.reg false [
             { dst := some 41, op := .faddr 0 (.slot 10) },
             { dst := some 42, op := .load1 (.slot 41) },
             { dst := some 43, op := .mv (.slot 42) },
             { dst := some 44, op := .mv (.slot 9), guard := some (43, true) },
             { dst := some 45, op := .lenL (.slot 44), guard := some (43, true) },
             { dst := some 46, op := .bin .gtr (.slot 45) (.lit (.int .i64 0)), guard := some (43, true) },
             { dst := some 47, op := .pick (.slot 43) (.slot 46) (.lit (.bool false)) }])
          (.cond (.slot 47)
           (.seq (.reg false [
               { dst := some 48, op := .mv (.slot 8) },
               { dst := some 49, op := .lits false 1 [(.lit (.int .u32 1))] },
               { dst := some 50, op := .callP (.lit (.fn (I 148) [])) [(.slot 48), (.slot 49)] false false },
               { dst := some 51, op := .faddr 1 (.slot 10) },
               { dst := none, op := .store1 (.slot 51) (.slot 50) }])
            (.reg false [
               { dst := some 52, op := .faddr 1 (.slot 7) },
               { dst := some 53, op := .load1 (.slot 52) },
               { dst := some 54, op := .mv (.slot 9) },
               { dst := some 55, op := .callP (.lit (.fn (I 149) [])) [(.slot 53), (.slot 54)] false false },
               { dst := some 56, op := .faddr 1 (.slot 11) },
               { dst := none, op := .store1 (.slot 56) (.slot 55) }]))
           (.skip)))
         (.seq (.reg true [
             { dst := some 57, op := .loadA 2 (.slot 10) },
             { dst := some 58, op := .callP (.lit (.fn (I 147) [])) [(.slot 57)] false false },
             { dst := some 59, op := .loadA 2 (.slot 11) },
             { dst := some 60, op := .callP (.lit (.fn (I 147) [])) [(.slot 59)] false false },
             { dst := some 4, op := .mv (.slot 58) },
             { dst := some 5, op := .mv (.slot 60) }])
          (.ret)))))))
  res := [.tmp 4, .tmp 5]
  keepOwn := false

def F145_0 (I J : Nat → Nat) : AC :=
  .seq (.seq (.reg false [
        { dst := some 18, op := .mv (.slot 3) },
        { dst := some 19, op := .lenS (.slot 18) },
        { dst := some 20, op := .bin .gtr (.slot 19) (.lit (.int .i64 0)) }])
     (.cond (.slot 20)
      (.skip)
      (.exit 0)))
    (.block 1 (.seq (.reg false [
         { dst := some 21, op := .mv (.slot 3) },
         { dst := some 22, op := .lenS (.slot 21) },
         { dst := some 23, op := .bin .sub (.slot 22) (.lit (.int .i64 9)) },
         { dst := some 24, op := .mx (.lit (.int .i64 0)) (.slot 23) },
         { dst := some 5, op := .mv (.slot 24) }])
      (.seq (.reg false [
          { dst := some 26, op := .mv (.slot 3) },
          { dst := some 27, op := .mv (.slot 5) },
          { dst := some 28, op := .slcS (.slot 26) (some (.slot 27)) none },
          { dst := some 29, op := .callP (.lit (.fn (I 151) [])) [(.slot 28), (.lit (.int .i64 10)), (.lit (.int .i64 32))] false false },
          { dst := some 25, op := .mv (.take 29) },
          { dst := some 30, op := .extr 25 0 },
          { dst := some 31, op := .extr 25 1 },
          { dst := some 6, op := .mv (.slot 30) },
          { dst := some 7, op := .mv (.slot 31) }])
       (.seq (.reg false [
           { dst := some 32, op := .faddr 1 (.slot 4) },
           { dst := some 33, op := .loadT (.slot 32) },
           { dst := some 34, op := .mv (.slot 6) },
           { dst := some 35, op := .conv .u32 (.slot 34) },
           { dst := some 36, op := .lits false 1 [(.slot 35)] },
           { dst := some 37, op := .app false false 1 (.take 33) (.slot 36) },
           { dst := some 38, op := .faddr 1 (.slot 4) },
           { dst := none, op := .store1 (.slot 38) (.slot 37) }])
        (.reg false [
           { dst := some 39, op := .mv (.slot 3) },
           { dst := some 40, op := .mv (.slot 5) },
           { dst := some 41, op := .slcS (.slot 39) none (some (.slot 40)) },
           { dst := some 3, op := .mv (.slot 41) }])))))
/-- lispprover/number.parse -/
def F145 (I J : Nat → Nat) : AFunc where
  code := .seq (.reg false [
       { dst := some 2, op := .alloc [.bool false, .slice []] }])
    (.seq (.reg false [
        { dst := some 8, op := .mv (.slot 0) },
        { dst := some 9, op := .callP (.lit (.fn (I 137) [])) [(.slot 8)] false false },
        { dst := some 0, op := .mv (.slot 9) }])
     (.seq (.reg false [
         { dst := some 10, op := .mv (.slot 0) },
         { dst := some 11, op := .callP (.lit (.fn (I 136) [])) [(.slot 10), (.lit (.str [45]))] false false },
         { dst := some 3, op := .mv (.slot 11) }])
      (.seq (.reg false [
          { dst := some 12, op := .mv (.slot 3) },
          { dst := some 13, op := .lenS (.slot 12) },
          { dst := some 14, op := .mv (.slot 0) },
          { dst := some 15, op := .lenS (.slot 14) },
          { dst := some 16, op := .bin .lss (.slot 13) (.slot 15) },
          { dst := some 17, op := .build [.bool false, .slice []] [(0, 1, (.slot 16))] },
          { dst := some 4, op := .alloc [.bool false, .slice []] },
          { dst := none, op := .storeA 2 (.slot 4) (.slot 17) }])
       (.seq (.block 0 (.loop [2, 3, 4] [2, 4] (F145_0 I J)))
        (.seq (.reg false [
            { dst := some 42, op := .faddr 1 (.slot 4) },
            { dst := some 43, op := .load1 (.slot 42) },
            { dst := some 44, op := .callP (.lit (.fn (I 152) [])) [(.slot 43)] false false },
            { dst := some 45, op := .faddr 1 (.slot 4) },
            { dst := none, op := .store1 (.slot 45) (.slot 44) }])
         (.seq (.reg false [
             { dst := some 46, op := .loadA 2 (.slot 4) },
             { dst := none, op := .storeA 2 (.slot 2) (.slot 46) }])
          (.ret)))))))
  res := [.cell 2 2 true]
  keepOwn := false

def F146_0 (I J : Nat → Nat) : AC :=
  .seq (.seq (.reg false [
        { dst := some 16, op := .mv (.slot 8) },
        { dst := some 17, op := .bin .geq (.slot 16) (.lit (.int .i64 0)) }])
     (.cond (.slot 17)
      (.skip)
      (.exit 0)))
    (.seq (.block 1 (.seq (.reg true [
          { dst := some 20, op := .mv (.slot 0) },
          { dst := some 21, op := .mv (.slot 8) },
          { dst := some 22, op := .iaddr 1 (.slot 20) (.slot 21) },
          { dst := some 23, op := .ldL 23 none (.slot 22) },
          { dst := some 24, op := .lits false 1 [(.slot 23)] },
          { dst := some 25, op := .ldL 7 none (.slot 7) },
          { dst := some 26, op := .app false false 1 (.take 24) (.slot 25) },
          { dst := some 27, op := .callP (.lit (.fn (I 152) [])) [(.slot 26)] false false },
          { dst := none, op := .stL 7 none (.slot 7) (.slot 27) }])
       (.seq (.reg false [
           { dst := some 9, op := .mv (.lit (.int .u32 0)) }])
        (.seq (.seq (.reg false [
             { dst := some 28, op := .load1 (.slot 7) },
             { dst := some 29, op := .load1 (.slot 3) },
             { dst := some 30, op := .callP (.lit (.fn (I 153) [])) [(.slot 28), (.slot 29)] false false },
             { dst := some 31, op := .bin .geq (.slot 30) (.lit (.int .i64 0)) }])
          (.cond (.slot 31)
           (.seq (.reg false [
               { dst := some 32, op := .mkfn (I 154) [(.slot 3), (.slot 7)] },
               { dst := some 33, op := .callS (.lit (.fn (I 155) [])) [(.lit (.int .i64 1000000000)), (.slot 32)] },
               { dst := some 34, op := .bin .sub (.slot 33) (.lit (.int .i64 1)) },
               { dst := some 35, op := .conv .u32 (.slot 34) },
               { dst := some 9, op := .mv (.slot 35) }])
            (.reg true [
               { dst := some 36, op := .ldL 7 none (.slot 7) },
               { dst := some 37, op := .ldL 3 none (.slot 3) },
               { dst := some 38, op := .mv (.slot 9) },
               { dst := some 39, op := .lits false 1 [(.slot 38)] },
               { dst := some 40, op := .callP (.lit (.fn (I 152) [])) [(.slot 39)] false false },
               { dst := some 41, op := .callP (.lit (.fn (I 156) [])) [(.slot 37), (.slot 40)] false false },
               { dst := some 42, op := .callP (.lit (.fn (I 149) [])) [(.slot 36), (.slot 41)] false false },
               { dst := none, op := .stL 7 none (.slot 7) (.slot 42) }]))
           (.skip)))
         (.reg false [
            { dst := some 43, op := .mv (.slot 6) },
            { dst := some 44, op := .mv (.slot 8) },
            { dst := some 45, op := .mv (.slot 9) },
            { dst := some 46, op := .iaddr 1 (.slot 43) (.slot 44) },
            { dst := none, op := .store1 (.slot 46) (.slot 45) }])))))
     (.reg false [
        { dst := some 18, op := .mv (.slot 8) },
        { dst := some 19, op := .bin .sub (.slot 18) (.lit (.int .i64 1)) },
        { dst := some 8, op := .mv (.slot 19) }]))
/-- lispprover/number.divide -/
def F146 (I J : Nat → Nat) : AFunc where
  code := .seq (.reg false [
       { dst := some 3, op := .box (.slot 1) },
       { dst := some 4, op := .mv (.lit (.slice [])) },
       { dst := some 5, op := .mv (.lit (.slice [])) }])
    (.seq (.reg false [
        { dst := some 10, op := .mv (.slot 0) },
        { dst := some 11, op := .lenL (.slot 10) },
        { dst := some 12, op := .mks true false 1 (.int .u32 0) (.slot 11) (.slot 11) },
        { dst := some 6, op := .mv (.slot 12) }])
     (.seq (.reg false [
         { dst := some 7, op := .alloc [.slice []] }])
      (.seq (.seq (.reg false [
           { dst := some 13, op := .mv (.slot 0) },
           { dst := some 14, op := .lenL (.slot 13) },
           { dst := some 15, op := .bin .sub (.slot 14) (.lit (.int .i64 1)) },
           { dst := some 8, op := .mv (.slot 15) }])
        (.block 0 (.loop [0, 3, 6, 7, 8] [3, 6, 7, 12] (F146_0 I J))))
       (.seq (.reg true [
           { dst := some 47, op := .frz 12 (.slot 6) },
           { dst := some 48, op := .callP (.lit (.fn (I 152) [])) [(.slot 47)] false false },
           { dst := some 49, op := .ldL 7 none (.slot 7) },
           { dst := some 4, op := .mv (.slot 48) },
           { dst := some 5, op := .mv (.slot 49) }])
        (.ret)))))
  res := [.tmp 4, .tmp 5]
  keepOwn := false

def F147_0 (I J : Nat → Nat) : AC :=
  .seq (.seq (.reg false [
        { dst := some 28, op := .mv (.slot 4) },
        { dst := some 29, op := .bin .geq (.slot 28) (.lit (.int .i64 0)) }])
     (.cond (.slot 29)
      (.skip)
      (.exit 0)))
    (.seq (.block 1 (.seq (.reg false [
          { dst := some 32, op := .faddr 1 (.slot 1) },
          { dst := some 33, op := .load1 (.slot 32) },
          { dst := some 34, op := .mv (.slot 4) },
          { dst := some 35, op := .iaddr 1 (.slot 33) (.slot 34) },
          { dst := some 36, op := .load1 (.slot 35) },
          { dst := some 37, op := .conv .i64 (.slot 36) },
          { dst := some 38, op := .callP (.lit (.fn (I 88) [])) [(.slot 37)] false false },
          { dst := some 5, op := .mv (.slot 38) }])
       (.seq (.reg false [
           { dst := some 39, op := .mv (.slot 5) },
           { dst := some 40, op := .lenS (.slot 39) },
           { dst := some 41, op := .slcS (.lit (.str [48, 48, 48, 48, 48, 48, 48, 48, 48])) (some (.slot 40)) none },
           { dst := some 42, op := .callS (.lit (.fn (I 158) [])) [(.slot 3), (.slot 41)] }])
        (.reg false [
           { dst := some 43, op := .mv (.slot 5) },
           { dst := some 44, op := .callS (.lit (.fn (I 158) [])) [(.slot 3), (.slot 43)] }]))))
     (.reg false [
        { dst := some 30, op := .mv (.slot 4) },
        { dst := some 31, op := .bin .sub (.slot 30) (.lit (.int .i64 1)) },
        { dst := some 4, op := .mv (.slot 31) }]))
/-- (lispprover/number.integer).String -/
def F147 (I J : Nat → Nat) : AFunc where
  code := .seq (.reg false [
       { dst := some 1, op := .box (.slot 0) },
       { dst := some 2, op := .mv (.lit (.str [])) }])
    (.seq (.seq (.reg false [
         { dst := some 6, op := .faddr 1 (.slot 1) },
         { dst := some 7, op := .load1 (.slot 6) },
         { dst := some 8, op := .lenL (.slot 7) },
         { dst := some 9, op := .bin .eql (.slot 8) (.lit (.int .i64 0)) }])
      (.cond (.slot 9)
       (.seq (.reg false [
           { dst := some 2, op := .mv (.lit (.str [48])) }])
        (.ret))
       (.skip)))
     (.seq (.reg false [
         { dst := some 3, op := .alloc [.nilptr, .slice []] }])
      (.seq (.seq (.reg false [
           { dst := some 10, op := .faddr 0 (.slot 1) },
           { dst := some 11, op := .load1 (.slot 10) }])
        (.cond (.slot 11)
         (.reg false [
            { dst := some 12, op := .callS (.lit (.fn (I 157) [])) [(.slot 3), (.lit (.int .u8 45))] }])
         (.skip)))
       (.seq (.reg false [
           { dst := some 13, op := .faddr 1 (.slot 1) },
           { dst := some 14, op := .load1 (.slot 13) },
           { dst := some 15, op := .faddr 1 (.slot 1) },
           { dst := some 16, op := .load1 (.slot 15) },
           { dst := some 17, op := .lenL (.slot 16) },
           { dst := some 18, op := .bin .sub (.slot 17) (.lit (.int .i64 1)) },
           { dst := some 19, op := .iaddr 1 (.slot 14) (.slot 18) },
           { dst := some 20, op := .load1 (.slot 19) },
           { dst := some 21, op := .conv .i64 (.slot 20) },
           { dst := some 22, op := .callP (.lit (.fn (I 88) [])) [(.slot 21)] false false },
           { dst := some 23, op := .callS (.lit (.fn (I 158) [])) [(.slot 3), (.slot 22)] }])
        (.seq (.seq (.reg false [
             { dst := some 24, op := .faddr 1 (.slot 1) },
             { dst := some 25, op := .load1 (.slot 24) },
             { dst := some 26, op := .lenL (.slot 25) },
             { dst := some 27, op := .bin .sub (.slot 26) (.lit (.int .i64 2)) },
             { dst := some 4, op := .mv (.slot 27) }])
          (.block 0 (.loop [1, 3, 4] [1, 3] (F147_0 I J))))
         (.seq (.reg false [
             { dst := some 45, op := .callS (.lit (.fn (I 159) [])) [(.slot 3)] },
             { dst := some 2, op := .mv (.slot 45) }])
          (.ret)))))))
  res := [.tmp 2]
  keepOwn := false

def F148_0 (I J : Nat → Nat) : AC :=
  .seq (.reg false [
       { dst := some 23, op := .bin .lss (.slot 22) (.slot 21) }])
    (.seq (.cond (.slot 23)
      (.skip)
      (.exit 0))
     (.seq (.block 1 (.seq (.reg false [
           { dst := some 24, op := .mv (.slot 22) },
           { dst := some 7, op := .mv (.slot 24) }])
        (.seq (.reg false [
            { dst := some 25, op := .mv (.slot 0) },
            { dst := some 26, op := .mv (.slot 7) },
            { dst := some 27, op := .iaddr 1 (.slot 25) (.slot 26) },
            { dst := some 28, op := .load1 (.slot 27) },
            { dst := some 29, op := .mv (.slot 6) },
            { dst := some 30, op := .bin .add (.slot 28) (.slot 29) },
            { dst := some 8, op := .mv (.slot 30) }])
         (.seq (.seq (.reg false [
              { dst := some 31, op := .mv (.slot 7) },
              { dst := some 32, op := .mv (.slot 1) },
              { dst := some 33, op := .lenL (.slot 32) },
              { dst := some 34, op := .bin .lss (.slot 31) (.slot 33) }])
           (.cond (.slot 34)
            (.reg false [
               { dst := some 35, op := .mv (.slot 8) },
               { dst := some 36, op := .mv (.slot 1) },
               { dst := some 37, op := .mv (.slot 7) },
               { dst := some 38, op := .iaddr 1 (.slot 36) (.slot 37) },
               { dst := some 39, op := .load1 (.slot 38) },
               { dst := some 40, op := .bin .add (.slot 35) (.slot 39) },
               { dst := some 8, op := .mv (.slot 40) }])
            (.skip)))
          (.seq (.reg false [
              { dst := some 41, op := .mv (.slot 8) },
              { dst := some 42, op := .bin .quo (.slot 41) (.lit (.int .u32 1000000000)) },
              { dst := some 6, op := .mv (.slot 42) }])
           (.reg false [
              { dst := some 43, op := .mv (.take 5) },
              { dst := some 44, op := .mv (.slot 8) },
              { dst := some 45, op := .bin .rem (.slot 44) (.lit (.int .u32 1000000000)) },
              { dst := some 46, op := .lits false 1 [(.slot 45)] },
              { dst := some 47, op := .app false false 1 (.take 43) (.slot 46) },
              { dst := some 5, op := .mv (.take 47) }]))))))
      (.reg false [
         { dst := some 48, op := .bin .add (.slot 22) (.lit (.int .i64 1)) },
         { dst := some 22, op := .mv (.slot 48) }])))
/-- lispprover/number.plus -/
def F148 (I J : Nat → Nat) : AFunc where
  code := .seq (.reg false [
       { dst := some 4, op := .mv (.lit (.slice [])) }])
    (.seq (.seq (.reg false [
         { dst := some 9, op := .mv (.slot 0) },
         { dst := some 10, op := .lenL (.slot 9) },
         { dst := some 11, op := .mv (.slot 1) },
         { dst := some 12, op := .lenL (.slot 11) },
         { dst := some 13, op := .bin .lss (.slot 10) (.slot 12) }])
      (.cond (.slot 13)
       (.reg false [
          { dst := some 14, op := .mv (.slot 1) },
          { dst := some 15, op := .mv (.slot 0) },
          { dst := some 0, op := .mv (.slot 14) },
          { dst := some 1, op := .mv (.slot 15) }])
       (.skip)))
     (.seq (.reg false [
         { dst := some 16, op := .mv (.slot 0) },
         { dst := some 17, op := .lenL (.slot 16) },
         { dst := some 18, op := .bin .add (.slot 17) (.lit (.int .i64 1)) },
         { dst := some 19, op := .mks false false 1 (.int .u32 0) (.lit (.int .i64 0)) (.slot 18) },
         { dst := some 5, op := .mv (.take 19) }])
      (.seq (.reg false [
          { dst := some 6, op := .mv (.lit (.int .u32 0)) }])
       (.seq (.seq (.reg false [
            { dst := some 20, op := .mv (.slot 0) },
            { dst := some 21, op := .lenL (.slot 20) },
            { dst := some 22, op := .mv (.lit (.int .i64 0)) }])
         (.block 0 (.loop [0, 1, 5, 6, 21, 22] [] (F148_0 I J))))
        (.seq (.reg false [
            { dst := some 49, op := .mv (.take 5) },
            { dst := some 50, op := .mv (.slot 6) },
            { dst := some 51, op := .lits false 1 [(.slot 50)] },
            { dst := some 52, op := .app false false 1 (.take 49) (.slot 51) },
            { dst := some 53, op := .callP (.lit (.fn (I 152) [])) [(.slot 52)] false false },
            { dst := some 4, op := .mv (.slot 53) }])
         (.ret))))))
  res := [.tmp 4]
  keepOwn := false

def F149_0 (I J : Nat → Nat) : AC :=
  .seq (.reg false [
       { dst := some 15, op := .bin .lss (.slot 14) (.slot 13) }])
    (.seq (.cond (.slot 15)
      (.skip)
      (.exit 0))
     (.seq (.block 1 (.seq (.reg false [
           { dst := some 16, op := .mv (.slot 14) },
           { dst := some 7, op := .mv (.slot 16) }])
        (.seq (.reg false [
            { dst := some 17, op := .mv (.slot 0) },
            { dst := some 18, op := .mv (.slot 7) },
            { dst := some 19, op := .iaddr 1 (.slot 17) (.slot 18) },
            { dst := some 20, op := .load1 (.slot 19) },
            { dst := some 21, op := .conv .i64 (.slot 20) },
            { dst := some 22, op := .mv (.slot 6) },
            { dst := some 23, op := .bin .sub (.slot 21) (.slot 22) },
            { dst := some 8, op := .mv (.slot 23) }])
         (.seq (.seq (.reg false [
              { dst := some 24, op := .mv (.slot 7) },
              { dst := some 25, op := .mv (.slot 1) },
              { dst := some 26, op := .lenL (.slot 25) },
              { dst := some 27, op := .bin .lss (.slot 24) (.slot 26) }])
           (.cond (.slot 27)
            (.reg false [
               { dst := some 28, op := .mv (.slot 8) },
               { dst := some 29, op := .mv (.slot 1) },
               { dst := some 30, op := .mv (.slot 7) },
               { dst := some 31, op := .iaddr 1 (.slot 29) (.slot 30) },
               { dst := some 32, op := .load1 (.slot 31) },
               { dst := some 33, op := .conv .i64 (.slot 32) },
               { dst := some 34, op := .bin .sub (.slot 28) (.slot 33) },
               { dst := some 8, op := .mv (.slot 34) }])
            (.skip)))
          (.seq (.reg false [
              { dst := some 6, op := .mv (.lit (.int .i64 0)) }])
           (.seq (.seq (.reg false [
                { dst := some 35, op := .mv (.slot 8) },
                { dst := some 36, op := .bin .lss (.slot 35) (.lit (.int .i64 0)) }])
             (.cond (.slot 36)
              (.reg false [
                 { dst := some 37, op := .mv (.slot 8) },
                 { dst := some 38, op := .bin .add (.slot 37) (.lit (.int .i64 1000000000)) },
                 { dst := some 8, op := .mv (.slot 38) },
                 { dst := some 6, op := .mv (.lit (.int .i64 1)) }])
              (.skip)))
            (.reg false [
               { dst := some 39, op := .mv (.slot 5) },
               { dst := some 40, op := .mv (.slot 7) },
               { dst := some 41, op := .mv (.slot 8) },
               { dst := some 42, op := .conv .u32 (.slot 41) },
               { dst := some 43, op := .iaddr 1 (.slot 39) (.slot 40) },
               { dst := none, op := .store1 (.slot 43) (.slot 42) }])))))))
      (.reg false [
         { dst := some 44, op := .bin .add (.slot 14) (.lit (.int .i64 1)) },
         { dst := some 14, op := .mv (.slot 44) }])))
/-- lispprover/number.minus -/
def F149 (I J : Nat → Nat) : AFunc where
  code := .seq (.reg false [
       { dst := some 4, op := .mv (.lit (.slice [])) }])
    (.seq (.reg false [
        { dst := some 9, op := .mv (.slot 0) },
        { dst := some 10, op := .lenL (.slot 9) },
        { dst := some 11, op := .mks true false 1 (.int .u32 0) (.slot 10) (.slot 10) },
        { dst := some 5, op := .mv (.slot 11) }])
     (.seq (.reg false [
         { dst := some 6, op := .mv (.lit (.int .i64 0)) }])
      (.seq (.seq (.reg false [
           { dst := some 12, op := .mv (.slot 0) },
           { dst := some 13, op := .lenL (.slot 12) },
           { dst := some 14, op := .mv (.lit (.int .i64 0)) }])
        (.block 0 (.loop [0, 1, 5, 6, 13, 14] [5, 11] (F149_0 I J))))
       (.seq (.reg false [
           { dst := some 45, op := .frz 11 (.slot 5) },
           { dst := some 46, op := .callP (.lit (.fn (I 152) [])) [(.slot 45)] false false },
           { dst := some 4, op := .mv (.slot 46) }])
        (.ret)))))
  res := [.tmp 4]
  keepOwn := false

def F152_0 (I J : Nat → Nat) : AC :=
  .seq (.seq (.reg false [
        { dst := some 3, op := .mv (.slot 0) },
        { dst := some 4, op := .lenL (.slot 3) },
        { dst := some 5, op := .bin .gtr (.slot 4) (.lit (.int .i64 0)) },
        { dst := some 6, op := .mv (.slot 5) },
        { dst := some 7, op := .mv (.slot 0), guard := some (6, true) },
        { dst := some 8, op := .mv (.slot 0), guard := some (6, true) },
        { dst := some 9, op := .lenL (.slot 8), guard := some (6, true) },
        { dst := some 10, op := .bin .sub (.slot 9) (.lit (.int .i64 1)), guard := some (6, true) },
        { dst := some 11, op := .iaddr 1 (.slot 7) (.slot 10), guard := some (6, true) },
        { dst := some 12, op := .load1 (.slot 11), guard := some (6, true) },
        { dst := some 13, op := .bin .eql (.slot 12) (.lit (.int .u32 0)), guard := some (6, true) },
        { dst := some 14, op := .pick (.slot 6) (.slot 13) (.lit (.bool false)) }])
     (.cond (.slot 14)
      (.skip)
      (.exit 0)))
    (.block 1 (.reg false [
        { dst := some 15, op := .mv (.slot 0) },
        { dst := some 16, op := .mv (.slot 0) },
        { dst := some 17, op := .lenL (.slot 16) },
        { dst := some 18, op := .bin .sub (.slot 17) (.lit (.int .i64 1)) },
        { dst := some 19, op := .slcL 1 (.slot 15) none (some (.slot 18)) },
        { dst := some 0, op := .mv (.slot 19) }]))
/-- lispprover/number.trim -/
def F152 (I J : Nat → Nat) : AFunc where
  code := .seq (.reg false [
       { dst := some 2, op := .mv (.lit (.slice [])) }])
    (.seq (.block 0 (.loop [0] [] (F152_0 I J)))
     (.seq (.reg false [
         { dst := some 20, op := .mv (.slot 0) },
         { dst := some 2, op := .mv (.slot 20) }])
      (.ret)))
  res := [.tmp 2]
  keepOwn := false

def F153_0 (I J : Nat → Nat) : AC :=
  .seq (.seq (.reg false [
        { dst := some 19, op := .mv (.slot 5) },
        { dst := some 20, op := .bin .geq (.slot 19) (.lit (.int .i64 0)) }])
     (.cond (.slot 20)
      (.skip)
      (.exit 0)))
    (.seq (.block 1 (.seq (.reg true [
          { dst := some 23, op := .mv (.slot 0) },
          { dst := some 24, op := .mv (.slot 5) },
          { dst := some 25, op := .iaddr 1 (.slot 23) (.slot 24) },
          { dst := some 26, op := .load1 (.slot 25) },
          { dst := some 27, op := .mv (.slot 1) },
          { dst := some 28, op := .mv (.slot 5) },
          { dst := some 29, op := .iaddr 1 (.slot 27) (.slot 28) },
          { dst := some 30, op := .load1 (.slot 29) },
          { dst := some 31, op := .bin .neq (.slot 26) (.slot 30) }])
       (.cond (.slot 31)
        (.seq (.seq (.reg true [
             { dst := some 32, op := .mv (.slot 0) },
             { dst := some 33, op := .mv (.slot 5) },
             { dst := some 34, op := .iaddr 1 (.slot 32) (.slot 33) },
             { dst := some 35, op := .load1 (.slot 34) },
             { dst := some 36, op := .mv (.slot 1) },
             { dst := some 37, op := .mv (.slot 5) },
             { dst := some 38, op := .iaddr 1 (.slot 36) (.slot 37) },
             { dst := some 39, op := .load1 (.slot 38) },
             { dst := some 40, op := .bin .lss (.slot 35) (.slot 39) }])
          (.cond (.slot 40)
           (.seq (.reg false [
               { dst := some 4, op := .mv (.lit (.int .i64 (-1))) }])
            (.ret))
           (.skip)))
         (.seq (.reg false [
             { dst := some 4, op := .mv (.lit (.int .i64 1)) }])
          (.ret)))
        (.skip))))
     (.reg false [
        { dst := some 21, op := .mv (.slot 5) },
        { dst := some 22, op := .bin .sub (.slot 21) (.lit (.int .i64 1)) },
        { dst := some 5, op := .mv (.slot 22) }]))
/-- lispprover/number.compare -/
def F153 (I J : Nat → Nat) : AFunc where
  code := .seq (.reg false [
       { dst := some 4, op := .mv (.lit (.int .i64 0)) }])
    (.seq (.seq (.reg false [
         { dst := some 6, op := .mv (.slot 0) },
         { dst := some 7, op := .lenL (.slot 6) },
         { dst := some 8, op := .mv (.slot 1) },
         { dst := some 9, op := .lenL (.slot 8) },
         { dst := some 10, op := .bin .neq (.slot 7) (.slot 9) }])
      (.cond (.slot 10)
       (.seq (.seq (.reg false [
            { dst := some 11, op := .mv (.slot 0) },
            { dst := some 12, op := .lenL (.slot 11) },
            { dst := some 13, op := .mv (.slot 1) },
            { dst := some 14, op := .lenL (.slot 13) },
            { dst := some 15, op := .bin .lss (.slot 12) (.slot 14) }])
         (.cond (.slot 15)
          (.seq (.reg false [
              { dst := some 4, op := .mv (.lit (.int .i64 (-1))) }])
           (.ret))
          (.skip)))
        (.seq (.reg false [
            { dst := some 4, op := .mv (.lit (.int .i64 1)) }])
         (.ret)))
       (.skip)))
     (.seq (.seq (.reg false [
          { dst := some 16, op := .mv (.slot 0) },
          { dst := some 17, op := .lenL (.slot 16) },
          { dst := some 18, op := .bin .sub (.slot 17) (.lit (.int .i64 1)) },
          { dst := some 5, op := .mv (.slot 18) }])
       (.block 0 (.loop [0, 1, 5] [] (F153_0 I J))))
      (.seq (.reg false [
          { dst := some 4, op := .mv (.lit (.int .i64 0)) }])
       (.ret))))
  res := [.tmp 4]
  keepOwn := false

/-- lispprover/number.divide$1 -/
def F154 (I J : Nat → Nat) : AFunc where
  code := .seq (.reg false [
       { dst := some 4, op := .mv (.lit (.bool false)) }])
    (.seq (.reg true [
        { dst := some 5, op := .load1 (.slot 1) },
        { dst := some 6, op := .mv (.slot 0) },
        { dst := some 7, op := .conv .u32 (.slot 6) },
        { dst := some 8, op := .lits false 1 [(.slot 7)] },
        { dst := some 9, op := .callP (.lit (.fn (I 156) [])) [(.slot 5), (.slot 8)] false false },
        { dst := some 10, op := .load1 (.slot 2) },
        { dst := some 11, op := .callP (.lit (.fn (I 153) [])) [(.slot 9), (.slot 10)] false false },
        { dst := some 12, op := .bin .gtr (.slot 11) (.lit (.int .i64 0)) },
        { dst := some 4, op := .mv (.slot 12) }])
     (.ret))
  res := [.tmp 4]
  keepOwn := false

def F156_0 (I J : Nat → Nat) : AC :=
  .seq (.reg false [
       { dst := some 28, op := .bin .lss (.slot 27) (.slot 26) }])
    (.seq (.cond (.slot 28)
      (.skip)
      (.exit 2))
     (.seq (.block 3 (.seq (.reg false [
           { dst := some 29, op := .mv (.slot 27) },
           { dst := some 30, op := .iaddr 1 (.slot 25) (.slot 27) },
           { dst := some 31, op := .load1 (.slot 30) },
           { dst := some 9, op := .mv (.slot 29) },
           { dst := some 10, op := .mv (.slot 31) }])
        (.seq (.reg false [
            { dst := some 32, op := .mv (.slot 5) },
            { dst := some 33, op := .mv (.slot 6) },
            { dst := some 34, op := .mv (.slot 9) },
            { dst := some 35, op := .bin .add (.slot 33) (.slot 34) },
            { dst := some 36, op := .iaddr 1 (.slot 32) (.slot 35) },
            { dst := some 37, op := .load1 (.slot 36) },
            { dst := some 38, op := .conv .u64 (.slot 37) },
            { dst := some 39, op := .mv (.slot 7) },
            { dst := some 40, op := .conv .u64 (.slot 39) },
            { dst := some 41, op := .mv (.slot 10) },
            { dst := some 42, op := .conv .u64 (.slot 41) },
            { dst := some 43, op := .bin .mul (.slot 40) (.slot 42) },
            { dst := some 44, op := .bin .add (.slot 38) (.slot 43) },
            { dst := some 45, op := .mv (.slot 8) },
            { dst := some 46, op := .bin .add (.slot 44) (.slot 45) },
            { dst := some 11, op := .mv (.slot 46) }])
         (.reg false [
            { dst := some 47, op := .mv (.slot 5) },
            { dst := some 48, op := .mv (.slot 6) },
            { dst := some 49, op := .mv (.slot 9) },
            { dst := some 50, op := .bin .add (.slot 48) (.slot 49) },
            { dst := some 51, op := .mv (.slot 11) },
            { dst := some 52, op := .bin .rem (.slot 51) (.lit (.int .u64 1000000000)) },
            { dst := some 53, op := .conv .u32 (.slot 52) },
            { dst := some 54, op := .mv (.slot 11) },
            { dst := some 55, op := .bin .quo (.slot 54) (.lit (.int .u64 1000000000)) },
            { dst := some 56, op := .iaddr 1 (.slot 47) (.slot 50) },
            { dst := none, op := .store1 (.slot 56) (.slot 53) },
            { dst := some 8, op := .mv (.slot 55) }]))))
      (.reg false [
         { dst := some 57, op := .bin .add (.slot 27) (.lit (.int .i64 1)) },
         { dst := some 27, op := .mv (.slot 57) }])))
def F156_1 (I J : Nat → Nat) : AC :=
  .seq (.reg false [
       { dst := some 21, op := .bin .lss (.slot 20) (.slot 19) }])
    (.seq (.cond (.slot 21)
      (.skip)
      (.exit 0))
     (.seq (.block 1 (.seq (.reg false [
           { dst := some 22, op := .mv (.slot 20) },
           { dst := some 23, op := .iaddr 1 (.slot 18) (.slot 20) },
           { dst := some 24, op := .load1 (.slot 23) },
           { dst := some 6, op := .mv (.slot 22) },
           { dst := some 7, op := .mv (.slot 24) }])
        (.seq (.reg false [
            { dst := some 8, op := .mv (.lit (.int .u64 0)) }])
         (.seq (.seq (.reg false [
              { dst := some 25, op := .mv (.slot 1) },
              { dst := some 26, op := .lenL (.slot 25) },
              { dst := some 27, op := .mv (.lit (.int .i64 0)) }])
           (.block 2 (.loop [1, 5, 6, 7, 8, 18, 19, 20, 25, 26, 27] [5, 17, 58] (F156_0 I J))))
          (.reg false [
             { dst := some 58, op := .mv (.slot 5) },
             { dst := some 59, op := .mv (.slot 6) },
             { dst := some 60, op := .mv (.slot 1) },
             { dst := some 61, op := .lenL (.slot 60) },
             { dst := some 62, op := .bin .add (.slot 59) (.slot 61) },
             { dst := some 63, op := .mv (.slot 8) },
             { dst := some 64, op := .conv .u32 (.slot 63) },
             { dst := some 65, op := .iaddr 1 (.slot 58) (.slot 62) },
             { dst := none, op := .store1 (.slot 65) (.slot 64) }])))))
      (.reg false [
         { dst := some 66, op := .bin .add (.slot 20) (.lit (.int .i64 1)) },
         { dst := some 20, op := .mv (.slot 66) }])))
/-- lispprover/number.times -/
def F156 (I J : Nat → Nat) : AFunc where
  code := .seq (.reg false [
       { dst := some 4, op := .mv (.lit (.slice [])) }])
    (.seq (.reg false [
        { dst := some 12, op := .mv (.slot 0) },
        { dst := some 13, op := .lenL (.slot 12) },
        { dst := some 14, op := .mv (.slot 1) },
        { dst := some 15, op := .lenL (.slot 14) },
        { dst := some 16, op := .bin .add (.slot 13) (.slot 15) },
        { dst := some 17, op := .mks true false 1 (.int .u32 0) (.slot 16) (.slot 16) },
        { dst := some 5, op := .mv (.slot 17) }])
     (.seq (.seq (.reg false [
          { dst := some 18, op := .mv (.slot 0) },
          { dst := some 19, op := .lenL (.slot 18) },
          { dst := some 20, op := .mv (.lit (.int .i64 0)) }])
       (.block 0 (.loop [1, 5, 18, 19, 20] [5, 17] (F156_1 I J))))
      (.seq (.reg false [
          { dst := some 67, op := .frz 17 (.slot 5) },
          { dst := some 68, op := .callP (.lit (.fn (I 152) [])) [(.slot 67)] false false },
          { dst := some 4, op := .mv (.slot 68) }])
       (.ret))))
  res := [.tmp 4]
  keepOwn := false

end Go.Vs.C
