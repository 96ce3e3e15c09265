/- The compiled forms of the functions that the statements reach: each is held against the program by the kernel. -/
import Derived.Test.YtmnlleaddimcaaaVc
import Derived.Test.YtmnlleaddimcaaaProg
set_option linter.unusedVariables false
set_option linter.unusedSimpArgs false
set_option linter.unusedSectionVars false
/-! H0 -/
set_option linter.unusedVariables false
namespace Go.Vc.H
open Go Go.Vc
/-- towpath/towpathlaw6.MacKeys -/
def mc3 : MC := .seq (.region 0 [
  ⟨(some 6), none, .mv (.c (.bool false)), [], [], 0⟩] false (0 :: 1 :: 17 :: 18 :: 19 :: 2 :: []))
 (.seq (.seq (.region 1 [
  ⟨(some 11), none, .call false 9 [], [], [], 0⟩, 
  ⟨(some 12), none, .un .not (.t 11), [], [], 0⟩] false (12 :: 0 :: 1 :: 17 :: 18 :: 19 :: 2 :: []))
 (.cond (.t 12)
 (.seq (.region 2 [
  ⟨(some 6), none, .mv (.c (.bool false)), [], [], 0⟩] false [6])
 (.ret))
 (.skip)))
 (.seq (.seq (.region 3 (
  ⟨(some 13), none, .mv (.t 0), [], [], 0⟩ :: 
  ⟨(some 14), none, .lenS (.t 13), [], [], 0⟩ :: 
  ⟨(some 15), none, .bin .gtr (.t 14) (.c (.n 200)), [], [], 0⟩ :: 
  ⟨(some 16), none, .mv (.t 15), [], [], 0⟩ :: 
  ⟨(some 17), (some (16, false)), .mv (.t 1), [], [], 0⟩ :: 
  ⟨(some 18), (some (16, false)), .lenS (.t 17), [], [], 0⟩ :: 
  ⟨(some 19), (some (16, false)), .bin .gtr (.t 18) (.c (.n 100)), [], [], 0⟩ :: 
  ⟨(some 20), none, .pick (.t 16) (.c (.bool true)) (.t 19), [], [], 0⟩ :: []) false [20, 0, 1, 2])
 (.cond (.t 20)
 (.seq (.region 4 [
  ⟨(some 6), none, .mv (.c (.bool true)), [], [], 0⟩] false [6])
 (.ret))
 (.skip)))
 (.seq (.region 5 [
  ⟨(some 21), none, .mv (.t 0), [], [], 0⟩, 
  ⟨(some 22), none, .app .k8 [(.u8 0)] 1 (.c .nil) (.t 21), [], [], 0⟩, 
  ⟨(some 23), none, .appz .k8 [(.u8 0)] 1 (.t 22) (.c (.n 65)), [], [], 0⟩, 
  ⟨(some 7), none, .mv (.t 23), [], [], 0⟩] false [7, 1, 0, 2])
 (.seq (.region 6 [
  ⟨(some 24), none, .mv (.t 7), [], [], 0⟩, 
  ⟨(some 25), none, .call false 10 [((.t 24), (some .k8))], [], [], 0⟩, 
  ⟨(some 8), none, .alloc (.b8 (List.replicate 32 0)), [], [], 0⟩, 
  ⟨none, none, .store (some 32) (.t 8) (.t 25), [], [], 0⟩] false [7, 1, 8, 0, 2])
 (.seq (.seq (.region 7 (
  ⟨(some 26), none, .mv (.t 7), [], [], 0⟩ :: 
  ⟨(some 27), none, .mv (.t 1), [], [], 0⟩ :: 
  ⟨(some 28), none, .bsl .kg [(.t 27)], [1], [], 2⟩ :: 
  ⟨(some 29), none, .call false 11 [((.t 26), (some .k8)), ((.t 28), (some .kb))], [0, 2], [], 7⟩ :: 
  ⟨(some 30), none, .slcA 32 1 (.t 8) none none, [], [2, 3], 0⟩ :: 
  ⟨(some 31), none, .mv (.t 1), [], [], 0⟩ :: 
  ⟨(some 32), none, .bsl .kg [(.t 31)], [5], [2, 3, 4], 32⟩ :: 
  ⟨(some 33), none, .call false 11 [((.t 30), (some .k8)), ((.t 32), (some .kb))], [4, 6, 3], [], 127⟩ :: 
  ⟨(some 34), none, .binA 32 true (.t 29) (.t 33), [3, 7], [], 255⟩ :: []) true [34, 0, 2, 1])
 (.cond (.t 34)
 (.seq (.region 8 [
  ⟨(some 6), none, .mv (.c (.bool false)), [], [], 0⟩] false [6])
 (.ret))
 (.skip)))
 (.seq (.region 9 [
  ⟨(some 35), none, .mv (.t 0), [], [], 0⟩, 
  ⟨(some 36), none, .lenS (.t 35), [], [], 0⟩, 
  ⟨(some 37), none, .minN [(.t 36), (.c (.n 64))], [], [], 0⟩, 
  ⟨(some 9), none, .mv (.t 37), [], [], 0⟩] false [0, 9, 2, 1])
 (.seq (.region 10 (
  ⟨(some 38), none, .mv (.t 0), [], [], 0⟩ :: 
  ⟨(some 39), none, .mv (.t 9), [], [], 0⟩ :: 
  ⟨(some 40), none, .slcS 1 (.t 38) none (some (.t 39)), [0, 1], [], 3⟩ :: 
  ⟨(some 41), none, .app .k8 [(.u8 0)] 1 (.c .nil) (.t 40), [2], [], 7⟩ :: 
  ⟨(some 42), none, .mv (.t 2), [], [], 0⟩ :: 
  ⟨(some 43), none, .conv .i64 (.t 42), [4], [], 16⟩ :: 
  ⟨(some 44), none, .mv (.t 9), [], [], 0⟩ :: 
  ⟨(some 45), none, .bin .sub (.c (.n 65)) (.t 44), [6], [], 64⟩ :: 
  ⟨(some 46), none, .bin .rem (.t 43) (.t 45), [5, 7], [], 240⟩ :: 
  ⟨(some 47), none, .appz .k8 [(.u8 0)] 1 (.t 41) (.t 46), [3, 8, 3], [], 511⟩ :: 
  ⟨(some 10), none, .mv (.t 47), (9 :: 9 :: 0 :: 1 :: 2 :: 3 :: 4 :: 5 :: 6 :: 7 :: 8 :: 9 :: []), [], 1023⟩ :: []) true [0, 9, 1, 10])
 (.seq (.region 11 (
  ⟨(some 48), none, .mv (.t 0), [], [], 0⟩ :: 
  ⟨(some 49), none, .mv (.t 9), [], [], 0⟩ :: 
  ⟨(some 50), none, .slcS 1 (.t 48) none (some (.t 49)), [], [], 0⟩ :: 
  ⟨(some 51), none, .mv (.t 1), [], [], 0⟩ :: 
  ⟨(some 52), none, .bsl .kg [(.t 51)], [], [], 0⟩ :: 
  ⟨(some 53), none, .call false 11 [((.t 50), (some .k8)), ((.t 52), (some .kb))], [], [], 0⟩ :: 
  ⟨(some 54), none, .mv (.t 10), [], [], 0⟩ :: 
  ⟨(some 55), none, .mv (.t 1), [], [], 0⟩ :: 
  ⟨(some 56), none, .bsl .kg [(.t 55)], [], [], 0⟩ :: 
  ⟨(some 57), none, .call false 11 [((.t 54), (some .k8)), ((.t 56), (some .kb))], [], [], 0⟩ :: 
  ⟨(some 58), none, .binA 32 false (.t 53) (.t 57), [], [], 0⟩ :: 
  ⟨(some 6), none, .mv (.t 58), [], [], 0⟩ :: []) false [6])
 (.ret)))))))))
def rs3 : List (Nat × Option (Option Nat)) := [(6, none)]

/-- towpath/towpathlaw6.MacTells -/
def mc4 : MC := .seq (.region 0 [
  ⟨(some 6), none, .mv (.c (.bool false)), [], [], 0⟩] false (0 :: 1 :: 14 :: 15 :: 16 :: 2 :: 34 :: 35 :: 37 :: 38 :: 36 :: 39 :: 33 :: 40 :: 42 :: 43 :: 41 :: 44 :: 45 :: 48 :: 49 :: 51 :: 52 :: 50 :: 53 :: 54 :: []))
 (.seq (.seq (.region 1 [
  ⟨(some 8), none, .call false 9 [], [], [], 0⟩, 
  ⟨(some 9), none, .un .not (.t 8), [], [], 0⟩] false (9 :: 0 :: 1 :: 14 :: 15 :: 16 :: 2 :: 34 :: 35 :: 37 :: 38 :: 36 :: 39 :: 33 :: 40 :: 42 :: 43 :: 41 :: 44 :: 45 :: 48 :: 49 :: 51 :: 52 :: 50 :: 53 :: 54 :: []))
 (.cond (.t 9)
 (.seq (.region 2 [
  ⟨(some 6), none, .mv (.c (.bool false)), [], [], 0⟩] false [6])
 (.ret))
 (.skip)))
 (.seq (.seq (.region 3 (
  ⟨(some 10), none, .mv (.t 0), [], [], 0⟩ :: 
  ⟨(some 11), none, .lenS (.t 10), [], [], 0⟩ :: 
  ⟨(some 12), none, .bin .gtr (.t 11) (.c (.n 200)), [], [], 0⟩ :: 
  ⟨(some 13), none, .mv (.t 12), [], [], 0⟩ :: 
  ⟨(some 14), (some (13, false)), .mv (.t 1), [], [], 0⟩ :: 
  ⟨(some 15), (some (13, false)), .lenS (.t 14), [], [], 0⟩ :: 
  ⟨(some 16), (some (13, false)), .bin .gtr (.t 15) (.c (.n 200)), [], [], 0⟩ :: 
  ⟨(some 17), none, .pick (.t 13) (.c (.bool true)) (.t 16), [], [], 0⟩ :: []) false (17 :: 2 :: 1 :: 0 :: 34 :: 35 :: 37 :: 38 :: 36 :: 39 :: 33 :: 40 :: 42 :: 43 :: 41 :: 44 :: 45 :: 48 :: 49 :: 51 :: 52 :: 50 :: 53 :: 54 :: []))
 (.cond (.t 17)
 (.seq (.region 4 [
  ⟨(some 6), none, .mv (.c (.bool true)), [], [], 0⟩] false [6])
 (.ret))
 (.skip)))
 (.seq (.region 5 (
  ⟨(some 18), none, .mv (.t 2), [], [], 0⟩ :: 
  ⟨(some 19), none, .conv .i64 (.t 18), [], [], 0⟩ :: 
  ⟨(some 20), none, .mv (.t 1), [], [], 0⟩ :: 
  ⟨(some 21), none, .lenS (.t 20), [], [], 0⟩ :: 
  ⟨(some 22), none, .bin .add (.t 21) (.c (.n 1)), [], [], 0⟩ :: 
  ⟨(some 23), none, .bin .rem (.t 19) (.t 22), [], [], 0⟩ :: 
  ⟨(some 7), none, .mv (.t 23), [], [], 0⟩ :: []) false (0 :: 1 :: 7 :: 34 :: 35 :: 37 :: 38 :: 36 :: 39 :: 33 :: 40 :: 42 :: 43 :: 41 :: 44 :: 45 :: 48 :: 49 :: 51 :: 52 :: 50 :: 53 :: 54 :: []))
 (.seq (.region 6 (
  ⟨(some 24), none, .mv (.t 0), [], [], 0⟩ :: 
  ⟨(some 25), none, .mv (.t 1), [], [], 0⟩ :: 
  ⟨(some 26), none, .bsl .kg [(.t 25)], [1], [], 2⟩ :: 
  ⟨(some 27), none, .call false 11 [((.t 24), (some .k8)), ((.t 26), (some .kb))], [0, 2], [], 7⟩ :: 
  ⟨(some 28), none, .mv (.t 0), [], [], 0⟩ :: 
  ⟨(some 29), none, .mv (.t 1), [], [], 0⟩ :: 
  ⟨(some 30), none, .call false 12 [((.t 28), (some .k8)), ((.t 29), (some .k8))], [4, 5, 3], [], 63⟩ :: 
  ⟨(some 31), none, .binA 32 false (.t 27) (.t 30), [3, 6], [], 127⟩ :: 
  ⟨(some 32), none, .mv (.t 31), [7, 6], [], 255⟩ :: 
  ⟨(some 33), (some (32, true)), .mv (.t 0), [8], [], 511⟩ :: 
  ⟨(some 34), (some (32, true)), .mv (.t 1), [8], [], 511⟩ :: 
  ⟨(some 35), (some (32, true)), .mv (.t 7), [8], [], 511⟩ :: 
  ⟨(some 36), (some (32, true)), .slcS 1 (.t 34) none (some (.t 35)), [10, 11, 8], [], 3583⟩ :: 
  ⟨(some 37), (some (32, true)), .mv (.t 1), [8], [], 511⟩ :: 
  ⟨(some 38), (some (32, true)), .mv (.t 7), [8], [], 511⟩ :: 
  ⟨(some 39), (some (32, true)), .slcS 1 (.t 37) (some (.t 38)) none, [13, 14, 8], [], 25087⟩ :: 
  ⟨(some 40), (some (32, true)), .bsl .kg [(.t 36), (.t 39)], [12, 15, 8], [], 65023⟩ :: 
  ⟨(some 41), (some (32, true)), .call false 11 [((.t 33), (some .k8)), ((.t 40), (some .kb))], [9, 16, 8, 8], [], 131071⟩ :: 
  ⟨(some 42), (some (32, true)), .mv (.t 0), [8], [], 511⟩ :: 
  ⟨(some 43), (some (32, true)), .mv (.t 1), [8], [], 511⟩ :: 
  ⟨(some 44), (some (32, true)), .call false 12 [((.t 42), (some .k8)), ((.t 43), (some .k8))], [18, 19, 17, 8], [], 1048575⟩ :: 
  ⟨(some 45), (some (32, true)), .binA 32 false (.t 41) (.t 44), [17, 20, 8], [], 2097151⟩ :: 
  ⟨(some 46), none, .pick (.t 32) (.t 45) (.c (.bool false)), [8, 21], [], 4194303⟩ :: 
  ⟨(some 47), none, .mv (.t 46), [22, 20], [], 8388607⟩ :: 
  ⟨(some 48), (some (47, true)), .mv (.t 0), [23], [], 16777215⟩ :: 
  ⟨(some 49), (some (47, true)), .mv (.t 1), [23], [], 16777215⟩ :: 
  ⟨(some 50), (some (47, true)), .call false 13 [((.t 48), (some .k8)), ((.t 49), (some .k8))], [24, 25, 23, 23], [], 67108863⟩ :: 
  ⟨(some 51), (some (47, true)), .mv (.t 0), [23], [], 16777215⟩ :: 
  ⟨(some 52), (some (47, true)), .mv (.t 1), [23], [], 16777215⟩ :: 
  ⟨(some 53), (some (47, true)), .call false 12 [((.t 51), (some .k8)), ((.t 52), (some .k8))], [27, 28, 26, 23], [], 536870911⟩ :: 
  ⟨(some 54), (some (47, true)), .binA 32 false (.t 50) (.t 53), [26, 29, 23], [], 1073741823⟩ :: 
  ⟨(some 55), none, .pick (.t 47) (.t 54) (.c (.bool false)), [23, 30], [], 2147483647⟩ :: 
  ⟨(some 6), none, .mv (.t 55), (31 :: 29 :: 0 :: 1 :: 2 :: 3 :: 4 :: 5 :: 6 :: 7 :: 8 :: 9 :: 10 :: 11 :: 12 :: 13 :: 14 :: 15 :: 16 :: 17 :: 18 :: 19 :: 20 :: 21 :: 22 :: 23 :: 24 :: 25 :: 26 :: 27 :: 28 :: 29 :: 30 :: 31 :: []), [], 4294967295⟩ :: []) true [6])
 (.ret)))))
def rs4 : List (Nat × Option (Option Nat)) := [(6, none)]

/-- towpath/towpathlaw6.KeysTell -/
def mc5 : MC := .seq (.region 0 [
  ⟨(some 3), none, .box (.t 0), [], [], 0⟩, 
  ⟨(some 6), none, .mv (.c (.bool false)), [], [], 0⟩] false (1 :: 2 :: 34 :: 35 :: 3 :: 55 :: 57 :: 56 :: 58 :: 59 :: 78 :: 79 :: 80 :: []))
 (.seq (.seq (.region 1 [
  ⟨(some 17), none, .call false 9 [], [], [], 0⟩, 
  ⟨(some 18), none, .un .not (.t 17), [], [], 0⟩] false (18 :: 1 :: 2 :: 34 :: 35 :: 3 :: 55 :: 57 :: 56 :: 58 :: 59 :: 78 :: 79 :: 80 :: []))
 (.cond (.t 18)
 (.seq (.region 2 [
  ⟨(some 6), none, .mv (.c (.bool false)), [], [], 0⟩] false [6])
 (.ret))
 (.skip)))
 (.seq (.seq (.region 3 [
  ⟨(some 19), none, .mv (.t 1), [], [], 0⟩, 
  ⟨(some 20), none, .lenS (.t 19), [], [], 0⟩, 
  ⟨(some 21), none, .bin .gtr (.t 20) (.c (.n 100)), [], [], 0⟩] false (21 :: 2 :: 34 :: 35 :: 3 :: 1 :: 55 :: 57 :: 56 :: 58 :: 59 :: 78 :: 79 :: 80 :: []))
 (.cond (.t 21)
 (.seq (.region 4 [
  ⟨(some 6), none, .mv (.c (.bool true)), [], [], 0⟩] false [6])
 (.ret))
 (.skip)))
 (.seq (.seq (.region 5 (
  ⟨(some 22), none, .mv (.t 2), [], [], 0⟩ :: 
  ⟨(some 23), none, .mv (.t 2), [], [], 0⟩ :: 
  ⟨(some 24), none, .bin .and (.t 23) (.c (.n 127)), [], [], 0⟩ :: 
  ⟨(some 25), none, .bsl .kg [(.t 22), (.t 24)], [], [], 0⟩ :: 
  ⟨(some 26), none, .lenS (.t 25), [], [], 0⟩ :: 
  ⟨(some 27), none, .mv (.c (.n 0)), [], [], 0⟩ :: []) false (27 :: 26 :: 25 :: 34 :: 35 :: 3 :: 1 :: 55 :: 57 :: 56 :: 58 :: 59 :: 78 :: 79 :: 80 :: []))
 (.block 0 (.loop (.seq (.region 6 [
  ⟨(some 28), none, .bin .lss (.t 27) (.t 26), [], [], 0⟩] false (28 :: 25 :: 27 :: 34 :: 35 :: 26 :: 3 :: 1 :: 55 :: 57 :: 56 :: 58 :: 59 :: 78 :: 79 :: 80 :: []))
 (.seq (.cond (.t 28)
 (.skip)
 (.exit 0))
 (.seq (.block 1 (.seq (.region 7 [
  ⟨(some 29), none, .idxS 1 (.t 25) (.t 27), [], [], 0⟩, 
  ⟨(some 30), none, .load none (.t 29), [], [], 0⟩, 
  ⟨(some 8), none, .mv (.t 30), [], [], 0⟩] false (8 :: 34 :: 35 :: 27 :: 26 :: 25 :: 3 :: 1 :: 55 :: 57 :: 56 :: 58 :: 59 :: 78 :: 79 :: 80 :: []))
 (.seq (.seq (.region 8 (
  ⟨(some 31), none, .mv (.t 8), [], [], 0⟩ :: 
  ⟨(some 32), none, .bin .gtr (.t 31) (.c (.n 300)), [], [], 0⟩ :: 
  ⟨(some 33), none, .mv (.t 32), [], [], 0⟩ :: 
  ⟨(some 34), (some (33, true)), .mv (.t 8), [], [], 0⟩ :: 
  ⟨(some 35), (some (33, true)), .bin .lss (.t 34) (.c (.n 8150)), [], [], 0⟩ :: 
  ⟨(some 36), none, .pick (.t 33) (.t 35) (.c (.bool false)), [], [], 0⟩ :: []) false (36 :: 27 :: 26 :: 25 :: 34 :: 35 :: 3 :: 1 :: 55 :: 57 :: 56 :: 58 :: 59 :: 78 :: 79 :: 80 :: 8 :: []))
 (.cond (.t 36)
 (.exit 1)
 (.skip)))
 (.seq (.region 9 (
  ⟨(some 38), none, .load (some 32) (.t 3), [], [], 0⟩ :: 
  ⟨(some 39), none, .mv (.t 1), [], [], 0⟩ :: 
  ⟨(some 40), none, .mv (.t 8), [], [], 0⟩ :: 
  ⟨(some 41), none, .call false 14 [((.t 38), none), ((.t 39), (some .k8)), ((.t 40), none)], [], [], 0⟩ :: 
  ⟨(some 37), none, .mv (.t 41), [], [], 0⟩ :: 
  ⟨(some 42), none, .ext 0 (.t 37), [], [], 0⟩ :: 
  ⟨(some 43), none, .ext 1 (.t 37), [], [], 0⟩ :: 
  ⟨(some 9), none, .mv (.t 42), [], [], 0⟩ :: 
  ⟨(some 10), none, .mv (.t 43), [], [], 0⟩ :: []) false (3 :: 1 :: 8 :: 10 :: 9 :: 55 :: 57 :: 56 :: 58 :: 59 :: 27 :: 26 :: 25 :: 34 :: 35 :: 78 :: 79 :: 80 :: []))
 (.seq (.region 10 (
  ⟨(some 45), none, .load (some 32) (.t 3), [], [], 0⟩ :: 
  ⟨(some 46), none, .mv (.t 1), [], [], 0⟩ :: 
  ⟨(some 47), none, .mv (.t 8), [], [], 0⟩ :: 
  ⟨(some 48), none, .call false 15 [((.t 45), none), ((.t 46), (some .k8)), ((.t 47), none)], [], [], 0⟩ :: 
  ⟨(some 44), none, .mv (.t 48), [], [], 0⟩ :: 
  ⟨(some 49), none, .ext 0 (.t 44), [], [], 0⟩ :: 
  ⟨(some 50), none, .ext 1 (.t 44), [], [], 0⟩ :: 
  ⟨(some 11), none, .mv (.t 49), [], [], 0⟩ :: 
  ⟨(some 12), none, .mv (.t 50), [], [], 0⟩ :: []) false (10 :: 12 :: 9 :: 55 :: 11 :: 57 :: 56 :: 58 :: 59 :: 27 :: 26 :: 25 :: 34 :: 35 :: 3 :: 1 :: 78 :: 79 :: 80 :: []))
 (.seq (.region 11 (
  ⟨(some 51), none, .mv (.t 10), [], [], 0⟩ :: 
  ⟨(some 52), none, .mv (.t 12), [], [], 0⟩ :: 
  ⟨(some 53), none, .binB .neq (.t 51) (.t 52), [], [], 0⟩ :: 
  ⟨(some 54), none, .mv (.t 53), [], [], 0⟩ :: 
  ⟨(some 55), (some (54, false)), .mv (.t 9), [], [], 0⟩ :: 
  ⟨(some 56), (some (54, false)), .b2s (.t 55), [], [], 0⟩ :: 
  ⟨(some 57), (some (54, false)), .mv (.t 11), [], [], 0⟩ :: 
  ⟨(some 58), (some (54, false)), .b2s (.t 57), [], [], 0⟩ :: 
  ⟨(some 59), (some (54, false)), .binS .neq (.t 56) (.t 58), [], [], 0⟩ :: 
  ⟨(some 60), none, .pick (.t 54) (.c (.bool true)) (.t 59), [], [], 0⟩ :: []) false (60 :: 27 :: 26 :: 25 :: 34 :: 35 :: 3 :: 1 :: 55 :: 57 :: 56 :: 58 :: 59 :: 78 :: 79 :: 80 :: []))
 (.cond (.t 60)
 (.seq (.region 12 [
  ⟨(some 6), none, .mv (.c (.bool false)), [], [], 0⟩] false [6])
 (.ret))
 (.skip))))))))
 (.region 13 [
  ⟨(some 61), none, .bin .add (.t 27) (.c (.n 1)), [], [], 0⟩, 
  ⟨(some 27), none, .mv (.t 61), [], [], 0⟩] false (27 :: 26 :: 25 :: 34 :: 35 :: 3 :: 1 :: 55 :: 57 :: 56 :: 58 :: 59 :: 78 :: 79 :: 80 :: []))))))))
 (.seq (.region 14 (
  ⟨(some 63), none, .load (some 32) (.t 3), [], [], 0⟩ :: 
  ⟨(some 64), none, .mv (.t 1), [], [], 0⟩ :: 
  ⟨(some 65), none, .call false 16 [((.t 63), none), ((.t 64), (some .k8))], [], [], 0⟩ :: 
  ⟨(some 62), none, .mv (.t 65), [], [], 0⟩ :: 
  ⟨(some 66), none, .ext 0 (.t 62), [], [], 0⟩ :: 
  ⟨(some 67), none, .ext 1 (.t 62), [], [], 0⟩ :: 
  ⟨(some 13), none, .alloc (.b8 (List.replicate 32 0)), [], [], 0⟩ :: 
  ⟨(some 14), none, .alloc (.b8 (List.replicate 32 0)), [], [], 0⟩ :: 
  ⟨none, none, .store (some 32) (.t 13) (.t 66), [], [], 0⟩ :: 
  ⟨none, none, .store (some 32) (.t 14) (.t 67), [], [], 0⟩ :: []) false (3 :: 1 :: 13 :: 14 :: 78 :: 79 :: 80 :: []))
 (.seq (.region 15 (
  ⟨(some 69), none, .load (some 32) (.t 3), [], [], 0⟩ :: 
  ⟨(some 70), none, .mv (.t 1), [], [], 0⟩ :: 
  ⟨(some 71), none, .call false 17 [((.t 69), none), ((.t 70), (some .k8))], [], [], 0⟩ :: 
  ⟨(some 68), none, .mv (.t 71), [], [], 0⟩ :: 
  ⟨(some 72), none, .ext 0 (.t 68), [], [], 0⟩ :: 
  ⟨(some 73), none, .ext 1 (.t 68), [], [], 0⟩ :: 
  ⟨(some 15), none, .alloc (.b8 (List.replicate 32 0)), [], [], 0⟩ :: 
  ⟨(some 16), none, .alloc (.b8 (List.replicate 32 0)), [], [], 0⟩ :: 
  ⟨none, none, .store (some 32) (.t 15) (.t 72), [], [], 0⟩ :: 
  ⟨none, none, .store (some 32) (.t 16) (.t 73), [], [], 0⟩ :: []) false (13 :: 15 :: 14 :: 16 :: 78 :: 79 :: 80 :: []))
 (.seq (.region 16 (
  ⟨(some 74), none, .load (some 32) (.t 13), [], [], 0⟩ :: 
  ⟨(some 75), none, .load (some 32) (.t 15), [], [], 0⟩ :: 
  ⟨(some 76), none, .binA 32 false (.t 74) (.t 75), [], [], 0⟩ :: 
  ⟨(some 77), none, .mv (.t 76), [], [], 0⟩ :: 
  ⟨(some 78), (some (77, true)), .load (some 32) (.t 14), [], [], 0⟩ :: 
  ⟨(some 79), (some (77, true)), .load (some 32) (.t 16), [], [], 0⟩ :: 
  ⟨(some 80), (some (77, true)), .binA 32 false (.t 78) (.t 79), [], [], 0⟩ :: 
  ⟨(some 81), none, .pick (.t 77) (.t 80) (.c (.bool false)), [], [], 0⟩ :: 
  ⟨(some 6), none, .mv (.t 81), [], [], 0⟩ :: []) false [6])
 (.ret)))))))
def rs5 : List (Nat × Option (Option Nat)) := [(6, none)]

/-- towpath/towpathlaw5.ShaTells -/
def mc6 : MC := .seq (.region 0 [
  ⟨(some 6), none, .mv (.c (.bool false)), [], [], 0⟩] false (0 :: 1 :: 2 :: 43 :: 44 :: 45 :: 46 :: 47 :: 50 :: 51 :: 53 :: 54 :: 55 :: 57 :: 58 :: 52 :: 56 :: 59 :: 60 :: 61 :: 62 :: 63 :: 66 :: 67 :: 69 :: 70 :: 71 :: 73 :: 74 :: 68 :: 72 :: 75 :: 76 :: 77 :: 78 :: 79 :: []))
 (.seq (.seq (.region 1 [
  ⟨(some 11), none, .call false 18 [], [], [], 0⟩, 
  ⟨(some 12), none, .un .not (.t 11), [], [], 0⟩] false (12 :: 0 :: 1 :: 2 :: 43 :: 44 :: 45 :: 46 :: 47 :: 50 :: 51 :: 53 :: 54 :: 55 :: 57 :: 58 :: 52 :: 56 :: 59 :: 60 :: 61 :: 62 :: 63 :: 66 :: 67 :: 69 :: 70 :: 71 :: 73 :: 74 :: 68 :: 72 :: 75 :: 76 :: 77 :: 78 :: 79 :: []))
 (.cond (.t 12)
 (.seq (.region 2 [
  ⟨(some 6), none, .mv (.c (.bool false)), [], [], 0⟩] false [6])
 (.ret))
 (.skip)))
 (.seq (.seq (.region 3 [
  ⟨(some 13), none, .mv (.t 0), [], [], 0⟩, 
  ⟨(some 14), none, .lenS (.t 13), [], [], 0⟩, 
  ⟨(some 15), none, .bin .gtr (.t 14) (.c (.n 400)), [], [], 0⟩] false (15 :: 1 :: 0 :: 2 :: 43 :: 44 :: 45 :: 46 :: 47 :: 50 :: 51 :: 53 :: 54 :: 55 :: 57 :: 58 :: 52 :: 56 :: 59 :: 60 :: 61 :: 62 :: 63 :: 66 :: 67 :: 69 :: 70 :: 71 :: 73 :: 74 :: 68 :: 72 :: 75 :: 76 :: 77 :: 78 :: 79 :: []))
 (.cond (.t 15)
 (.seq (.region 4 [
  ⟨(some 6), none, .mv (.c (.bool true)), [], [], 0⟩] false [6])
 (.ret))
 (.skip)))
 (.seq (.region 5 (
  ⟨(some 16), none, .mv (.t 1), [], [], 0⟩ :: 
  ⟨(some 17), none, .conv .i64 (.t 16), [0], [], 1⟩ :: 
  ⟨(some 18), none, .mv (.t 0), [], [], 0⟩ :: 
  ⟨(some 19), none, .lenS (.t 18), [2], [], 4⟩ :: 
  ⟨(some 20), none, .bin .add (.t 19) (.c (.n 1)), [3], [], 12⟩ :: 
  ⟨(some 21), none, .bin .rem (.t 17) (.t 20), [1, 4], [], 31⟩ :: 
  ⟨(some 22), none, .mv (.t 2), [], [], 0⟩ :: 
  ⟨(some 23), none, .conv .i64 (.t 22), [6], [], 64⟩ :: 
  ⟨(some 24), none, .mv (.t 0), [], [], 0⟩ :: 
  ⟨(some 25), none, .lenS (.t 24), [8], [], 256⟩ :: 
  ⟨(some 26), none, .bin .add (.t 25) (.c (.n 1)), [9], [], 768⟩ :: 
  ⟨(some 27), none, .bin .rem (.t 23) (.t 26), [7, 10], [], 1984⟩ :: 
  ⟨(some 7), none, .mv (.t 21), (5 :: 0 :: 1 :: 2 :: 3 :: 4 :: 5 :: []), [], 63⟩ :: 
  ⟨(some 8), none, .mv (.t 27), (11 :: 12 :: 0 :: 1 :: 2 :: 3 :: 4 :: 5 :: 6 :: 7 :: 8 :: 9 :: 10 :: 11 :: 12 :: []), [], 8191⟩ :: []) true (7 :: 8 :: 0 :: 43 :: 44 :: 45 :: 46 :: 47 :: 50 :: 51 :: 53 :: 54 :: 55 :: 57 :: 58 :: 52 :: 56 :: 59 :: 60 :: 61 :: 62 :: 63 :: 66 :: 67 :: 69 :: 70 :: 71 :: 73 :: 74 :: 68 :: 72 :: 75 :: 76 :: 77 :: 78 :: 79 :: []))
 (.seq (.seq (.region 6 [
  ⟨(some 28), none, .mv (.t 7), [], [], 0⟩, 
  ⟨(some 29), none, .mv (.t 8), [], [], 0⟩, 
  ⟨(some 30), none, .bin .gtr (.t 28) (.t 29), [], [], 0⟩] false (30 :: 8 :: 7 :: 0 :: 43 :: 44 :: 45 :: 46 :: 47 :: 50 :: 51 :: 53 :: 54 :: 55 :: 57 :: 58 :: 52 :: 56 :: 59 :: 60 :: 61 :: 62 :: 63 :: 66 :: 67 :: 69 :: 70 :: 71 :: 73 :: 74 :: 68 :: 72 :: 75 :: 76 :: 77 :: 78 :: 79 :: []))
 (.cond (.t 30)
 (.region 7 [
  ⟨(some 31), none, .mv (.t 8), [], [], 0⟩, 
  ⟨(some 32), none, .mv (.t 7), [], [], 0⟩, 
  ⟨(some 7), none, .mv (.t 31), [], [], 0⟩, 
  ⟨(some 8), none, .mv (.t 32), [], [], 0⟩] false (0 :: 43 :: 44 :: 45 :: 46 :: 47 :: 7 :: 50 :: 51 :: 8 :: 53 :: 54 :: 55 :: 57 :: 58 :: 52 :: 56 :: 59 :: 60 :: 61 :: 62 :: 63 :: 66 :: 67 :: 69 :: 70 :: 71 :: 73 :: 74 :: 68 :: 72 :: 75 :: 76 :: 77 :: 78 :: 79 :: []))
 (.skip)))
 (.seq (.region 8 (
  ⟨(some 33), none, .mv (.t 0), [], [], 0⟩ :: 
  ⟨(some 34), none, .call false 10 [((.t 33), (some .k8))], [], [], 0⟩ :: 
  ⟨(some 35), none, .mv (.t 0), [], [], 0⟩ :: 
  ⟨(some 36), none, .call false 19 [((.t 35), (some .k8))], [], [], 0⟩ :: 
  ⟨(some 9), none, .alloc (.b8 (List.replicate 32 0)), [], [], 0⟩ :: 
  ⟨(some 10), none, .alloc (.b8 (List.replicate 64 0)), [], [], 0⟩ :: 
  ⟨none, none, .store (some 32) (.t 9) (.t 34), [], [], 0⟩ :: 
  ⟨none, none, .store (some 64) (.t 10) (.t 36), [], [], 0⟩ :: []) false (0 :: 9 :: 43 :: 44 :: 10 :: 45 :: 46 :: 47 :: 7 :: 50 :: 51 :: 8 :: 53 :: 54 :: 55 :: 57 :: 58 :: 52 :: 56 :: 59 :: 60 :: 61 :: 62 :: 63 :: 66 :: 67 :: 69 :: 70 :: 71 :: 73 :: 74 :: 68 :: 72 :: 75 :: 76 :: 77 :: 78 :: 79 :: []))
 (.seq (.region 9 (
  ⟨(some 37), none, .mv (.t 0), [], [], 0⟩ :: 
  ⟨(some 38), none, .bsl .kg [(.t 37)], [0], [], 1⟩ :: 
  ⟨(some 39), none, .call false 20 [((.t 38), (some .kb))], [1], [], 3⟩ :: 
  ⟨(some 40), none, .load (some 32) (.t 9), [], [1, 2], 0⟩ :: 
  ⟨(some 41), none, .binA 32 false (.t 39) (.t 40), [2, 3], [], 15⟩ :: 
  ⟨(some 42), none, .mv (.t 41), [4, 2], [], 31⟩ :: 
  ⟨(some 43), (some (42, true)), .mv (.t 0), [5], [], 63⟩ :: 
  ⟨(some 44), (some (42, true)), .bsl .kg [(.t 43)], [6, 5], [], 127⟩ :: 
  ⟨(some 45), (some (42, true)), .call false 21 [((.t 44), (some .kb))], [7, 5, 5], [], 255⟩ :: 
  ⟨(some 46), (some (42, true)), .load (some 64) (.t 10), [5], [7, 8], 63⟩ :: 
  ⟨(some 47), (some (42, true)), .binA 64 false (.t 45) (.t 46), [8, 9, 5], [], 1023⟩ :: 
  ⟨(some 48), none, .pick (.t 42) (.t 47) (.c (.bool false)), [5, 10], [], 2047⟩ :: 
  ⟨(some 49), none, .mv (.t 48), [11, 8], [], 4095⟩ :: 
  ⟨(some 50), (some (49, true)), .mv (.t 0), [12], [], 8191⟩ :: 
  ⟨(some 51), (some (49, true)), .mv (.t 7), [12], [], 8191⟩ :: 
  ⟨(some 52), (some (49, true)), .slcS 1 (.t 50) none (some (.t 51)), [13, 14, 12], [], 32767⟩ :: 
  ⟨(some 53), (some (49, true)), .mv (.t 0), [12], [], 8191⟩ :: 
  ⟨(some 54), (some (49, true)), .mv (.t 7), [12], [], 8191⟩ :: 
  ⟨(some 55), (some (49, true)), .mv (.t 8), [12], [], 8191⟩ :: 
  ⟨(some 56), (some (49, true)), .slcS 1 (.t 53) (some (.t 54)) (some (.t 55)), [16, 17, 18, 12], [], 466943⟩ :: 
  ⟨(some 57), (some (49, true)), .mv (.t 0), [12], [], 8191⟩ :: 
  ⟨(some 58), (some (49, true)), .mv (.t 8), [12], [], 8191⟩ :: 
  ⟨(some 59), (some (49, true)), .slcS 1 (.t 57) (some (.t 58)) none, [20, 21, 12], [], 3153919⟩ :: 
  ⟨(some 60), (some (49, true)), .bsl .kg [(.t 52), (.t 56), (.c .nil), (.t 59)], [15, 19, 22, 12], [], 8388607⟩ :: 
  ⟨(some 61), (some (49, true)), .call false 20 [((.t 60), (some .kb))], [23, 12, 12], [], 16777215⟩ :: 
  ⟨(some 62), (some (49, true)), .load (some 32) (.t 9), [12], [23, 24], 8191⟩ :: 
  ⟨(some 63), (some (49, true)), .binA 32 false (.t 61) (.t 62), [24, 25, 12], [], 67108863⟩ :: 
  ⟨(some 64), none, .pick (.t 49) (.t 63) (.c (.bool false)), [12, 26], [], 134217727⟩ :: 
  ⟨(some 65), none, .mv (.t 64), [27, 24], [], 268435455⟩ :: 
  ⟨(some 66), (some (65, true)), .mv (.t 0), [28], [], 536870911⟩ :: 
  ⟨(some 67), (some (65, true)), .mv (.t 7), [28], [], 536870911⟩ :: 
  ⟨(some 68), (some (65, true)), .slcS 1 (.t 66) none (some (.t 67)), [29, 30, 28], [], 2147483647⟩ :: 
  ⟨(some 69), (some (65, true)), .mv (.t 0), [28], [], 536870911⟩ :: 
  ⟨(some 70), (some (65, true)), .mv (.t 7), [28], [], 536870911⟩ :: 
  ⟨(some 71), (some (65, true)), .mv (.t 8), [28], [], 536870911⟩ :: 
  ⟨(some 72), (some (65, true)), .slcS 1 (.t 69) (some (.t 70)) (some (.t 71)), [32, 33, 34, 28], [], 30601641983⟩ :: 
  ⟨(some 73), (some (65, true)), .mv (.t 0), [28], [], 536870911⟩ :: 
  ⟨(some 74), (some (65, true)), .mv (.t 8), [28], [], 536870911⟩ :: 
  ⟨(some 75), (some (65, true)), .slcS 1 (.t 73) (some (.t 74)) none, [36, 37, 28], [], 206695301119⟩ :: 
  ⟨(some 76), (some (65, true)), .bsl .kg [(.t 68), (.c .nil), (.t 72), (.t 75)], [31, 35, 38, 28], [], 549755813887⟩ :: 
  ⟨(some 77), (some (65, true)), .call false 21 [((.t 76), (some .kb))], [39, 28, 28], [], 1099511627775⟩ :: 
  ⟨(some 78), (some (65, true)), .load (some 64) (.t 10), [28], [39, 40], 536870911⟩ :: 
  ⟨(some 79), (some (65, true)), .binA 64 false (.t 77) (.t 78), [40, 41, 28], [], 4398046511103⟩ :: 
  ⟨(some 80), none, .pick (.t 65) (.t 79) (.c (.bool false)), [28, 42], [], 8796093022207⟩ :: 
  ⟨(some 6), none, .mv (.t 80), (43 :: 40 :: 0 :: 1 :: 2 :: 3 :: 4 :: 5 :: 6 :: 7 :: 8 :: 9 :: 10 :: 11 :: 12 :: 13 :: 14 :: 15 :: 16 :: 17 :: 18 :: 19 :: 20 :: 21 :: 22 :: 23 :: 24 :: 25 :: 26 :: 27 :: 28 :: 29 :: 30 :: 31 :: 32 :: 33 :: 34 :: 35 :: 36 :: 37 :: 38 :: 39 :: 40 :: 41 :: 42 :: 43 :: []), [], 17592186044415⟩ :: []) true [6])
 (.ret)))))))
def rs6 : List (Nat × Option (Option Nat)) := [(6, none)]

/-- towpath/towpathlaw5.ShaLengths -/
def mc7 : MC := .seq (.region 0 [
  ⟨(some 4), none, .mv (.c (.bool false)), [], [], 0⟩] false (0 :: 1 :: 40 :: 41 :: 43 :: 42 :: 44 :: 45 :: []))
 (.seq (.seq (.region 1 [
  ⟨(some 8), none, .call false 18 [], [], [], 0⟩, 
  ⟨(some 9), none, .un .not (.t 8), [], [], 0⟩] false (9 :: 0 :: 1 :: 40 :: 41 :: 43 :: 42 :: 44 :: 45 :: []))
 (.cond (.t 9)
 (.seq (.region 2 [
  ⟨(some 4), none, .mv (.c (.bool false)), [], [], 0⟩] false [4])
 (.ret))
 (.skip)))
 (.seq (.region 3 [
  ⟨(some 10), none, .bsl .kn ((.c (.n 0)) :: (.c (.n 54)) :: (.c (.n 55)) :: (.c (.n 56)) :: (.c (.n 57)) :: (.c (.n 63)) :: (.c (.n 64)) :: (.c (.n 65)) :: (.c (.n 110)) :: (.c (.n 111)) :: (.c (.n 112)) :: (.c (.n 113)) :: (.c (.n 118)) :: (.c (.n 119)) :: (.c (.n 120)) :: (.c (.n 121)) :: (.c (.n 126)) :: (.c (.n 127)) :: (.c (.n 128)) :: (.c (.n 129)) :: (.c (.n 239)) :: (.c (.n 240)) :: (.c (.n 255)) :: (.c (.n 256)) :: []), [], [], 0⟩, 
  ⟨(some 5), none, .mv (.t 10), [], [], 0⟩] false (5 :: 0 :: 1 :: 40 :: 41 :: 43 :: 42 :: 44 :: 45 :: []))
 (.seq (.region 4 (
  ⟨(some 11), none, .mv (.t 5), [], [], 0⟩ :: 
  ⟨(some 12), none, .mv (.t 0), [], [], 0⟩ :: 
  ⟨(some 13), none, .conv .i64 (.t 12), [], [], 0⟩ :: 
  ⟨(some 14), none, .mv (.t 5), [], [], 0⟩ :: 
  ⟨(some 15), none, .lenS (.t 14), [], [], 0⟩ :: 
  ⟨(some 16), none, .bin .rem (.t 13) (.t 15), [], [], 0⟩ :: 
  ⟨(some 17), none, .idxS 1 (.t 11) (.t 16), [], [], 0⟩ :: 
  ⟨(some 18), none, .load none (.t 17), [], [], 0⟩ :: 
  ⟨(some 19), none, .mk .k8 [(.u8 0)] 1 (.t 18) (.t 18), [], [], 0⟩ :: 
  ⟨(some 6), none, .mv (.t 19), [], [], 0⟩ :: []) false (6 :: 1 :: 40 :: 41 :: 43 :: 42 :: 44 :: 45 :: []))
 (.seq (.seq (.region 5 [
  ⟨(some 7), none, .mv (.c (.n 0)), [], [], 0⟩] false (7 :: 6 :: 1 :: 40 :: 41 :: 43 :: 42 :: 44 :: 45 :: []))
 (.block 0 (.loop (.seq (.seq (.region 6 [
  ⟨(some 20), none, .mv (.t 7), [], [], 0⟩, 
  ⟨(some 21), none, .mv (.t 6), [], [], 0⟩, 
  ⟨(some 22), none, .lenS (.t 21), [], [], 0⟩, 
  ⟨(some 23), none, .bin .lss (.t 20) (.t 22), [], [], 0⟩] false (23 :: 6 :: 7 :: 1 :: 40 :: 41 :: 43 :: 42 :: 44 :: 45 :: []))
 (.cond (.t 23)
 (.skip)
 (.exit 0)))
 (.seq (.block 1 (.region 8 (
  ⟨(some 26), none, .mv (.t 6), [], [], 0⟩ :: 
  ⟨(some 27), none, .mv (.t 7), [], [], 0⟩ :: 
  ⟨(some 28), none, .mv (.t 1), [], [], 0⟩ :: 
  ⟨(some 29), none, .mv (.t 7), [], [], 0⟩ :: 
  ⟨(some 30), none, .conv .u8 (.t 29), [], [], 0⟩ :: 
  ⟨(some 31), none, .bin .add (.t 28) (.t 30), [], [], 0⟩ :: 
  ⟨(some 32), none, .idxS 1 (.t 26) (.t 27), [], [], 0⟩ :: 
  ⟨none, none, .store none (.t 32) (.t 31), [], [], 0⟩ :: []) false (7 :: 6 :: 1 :: 40 :: 41 :: 43 :: 42 :: 44 :: 45 :: [])))
 (.region 7 [
  ⟨(some 24), none, .mv (.t 7), [], [], 0⟩, 
  ⟨(some 25), none, .bin .add (.t 24) (.c (.n 1)), [], [], 0⟩, 
  ⟨(some 7), none, .mv (.t 25), [], [], 0⟩] false (7 :: 6 :: 1 :: 40 :: 41 :: 43 :: 42 :: 44 :: 45 :: [])))))))
 (.seq (.region 9 (
  ⟨(some 33), none, .mv (.t 6), [], [], 0⟩ :: 
  ⟨(some 34), none, .bsl .kg [(.t 33)], [], [], 0⟩ :: 
  ⟨(some 35), none, .call false 20 [((.t 34), (some .kb))], [], [], 0⟩ :: 
  ⟨(some 36), none, .mv (.t 6), [], [], 0⟩ :: 
  ⟨(some 37), none, .call false 10 [((.t 36), (some .k8))], [], [], 0⟩ :: 
  ⟨(some 38), none, .binA 32 false (.t 35) (.t 37), [], [], 0⟩ :: 
  ⟨(some 39), none, .mv (.t 38), [], [], 0⟩ :: 
  ⟨(some 40), (some (39, true)), .mv (.t 6), [], [], 0⟩ :: 
  ⟨(some 41), (some (39, true)), .bsl .kg [(.t 40)], [], [], 0⟩ :: 
  ⟨(some 42), (some (39, true)), .call false 21 [((.t 41), (some .kb))], [], [], 0⟩ :: 
  ⟨(some 43), (some (39, true)), .mv (.t 6), [], [], 0⟩ :: 
  ⟨(some 44), (some (39, true)), .call false 19 [((.t 43), (some .k8))], [], [], 0⟩ :: 
  ⟨(some 45), (some (39, true)), .binA 64 false (.t 42) (.t 44), [], [], 0⟩ :: 
  ⟨(some 46), none, .pick (.t 39) (.t 45) (.c (.bool false)), [], [], 0⟩ :: 
  ⟨(some 4), none, .mv (.t 46), [], [], 0⟩ :: []) false [4])
 (.ret))))))
def rs7 : List (Nat × Option (Option Nat)) := [(4, none)]

/-- towpath/towpathlaw5.ShaParts -/
def mc8 : MC := .seq (.region 0 [
  ⟨(some 2), none, .mv (.c (.bool false)), [], [], 0⟩] false (0 :: 34 :: 36 :: 35 :: 37 :: 38 :: 41 :: 42 :: 44 :: 43 :: 45 :: 46 :: []))
 (.seq (.seq (.region 1 [
  ⟨(some 5), none, .call false 18 [], [], [], 0⟩, 
  ⟨(some 6), none, .un .not (.t 5), [], [], 0⟩] false (6 :: 0 :: 34 :: 36 :: 35 :: 37 :: 38 :: 41 :: 42 :: 44 :: 43 :: 45 :: 46 :: []))
 (.cond (.t 6)
 (.seq (.region 2 [
  ⟨(some 2), none, .mv (.c (.bool false)), [], [], 0⟩] false [2])
 (.ret))
 (.skip)))
 (.seq (.seq (.region 3 [
  ⟨(some 7), none, .mv (.t 0), [], [], 0⟩, 
  ⟨(some 8), none, .lenS (.t 7), [], [], 0⟩, 
  ⟨(some 9), none, .bin .gtr (.t 8) (.c (.n 20)), [], [], 0⟩] false (9 :: 0 :: 34 :: 36 :: 35 :: 37 :: 38 :: 41 :: 42 :: 44 :: 43 :: 45 :: 46 :: []))
 (.cond (.t 9)
 (.seq (.region 4 [
  ⟨(some 2), none, .mv (.c (.bool true)), [], [], 0⟩] false [2])
 (.ret))
 (.skip)))
 (.seq (.region 5 [
  ⟨(some 3), none, .mv (.c .nil), [], [], 0⟩] false (0 :: 3 :: 34 :: 36 :: 35 :: 37 :: 38 :: 41 :: 42 :: 44 :: 43 :: 45 :: 46 :: []))
 (.seq (.seq (.region 6 [
  ⟨(some 4), none, .mv (.c (.n 0)), [], [], 0⟩] false (4 :: 0 :: 3 :: 34 :: 36 :: 35 :: 37 :: 38 :: 41 :: 42 :: 44 :: 43 :: 45 :: 46 :: []))
 (.block 0 (.loop (.seq (.seq (.region 7 [
  ⟨(some 10), none, .mv (.t 4), [], [], 0⟩, 
  ⟨(some 11), none, .mv (.t 0), [], [], 0⟩, 
  ⟨(some 12), none, .lenS (.t 11), [], [], 0⟩, 
  ⟨(some 13), none, .bin .lss (.t 10) (.t 12), [], [], 0⟩] false (13 :: 0 :: 4 :: 3 :: 34 :: 36 :: 35 :: 37 :: 38 :: 41 :: 42 :: 44 :: 43 :: 45 :: 46 :: []))
 (.cond (.t 13)
 (.skip)
 (.exit 0)))
 (.seq (.block 1 (.seq (.seq (.region 9 (
  ⟨(some 16), none, .mv (.t 0), [], [], 0⟩ :: 
  ⟨(some 17), none, .mv (.t 4), [], [], 0⟩ :: 
  ⟨(some 18), none, .idxS 1 (.t 16) (.t 17), [], [], 0⟩ :: 
  ⟨(some 19), none, .load none (.t 18), [], [], 0⟩ :: 
  ⟨(some 20), none, .lenS (.t 19), [], [], 0⟩ :: 
  ⟨(some 21), none, .bin .gtr (.t 20) (.c (.n 100)), [], [], 0⟩ :: []) false (21 :: 3 :: 0 :: 4 :: 34 :: 36 :: 35 :: 37 :: 38 :: 41 :: 42 :: 44 :: 43 :: 45 :: 46 :: []))
 (.cond (.t 21)
 (.seq (.region 10 [
  ⟨(some 2), none, .mv (.c (.bool true)), [], [], 0⟩] false [2])
 (.ret))
 (.skip)))
 (.region 11 (
  ⟨(some 22), none, .mv (.t 3), [], [], 0⟩ :: 
  ⟨(some 23), none, .mv (.t 0), [], [], 0⟩ :: 
  ⟨(some 24), none, .mv (.t 4), [], [], 0⟩ :: 
  ⟨(some 25), none, .idxS 1 (.t 23) (.t 24), [], [], 0⟩ :: 
  ⟨(some 26), none, .load none (.t 25), [], [], 0⟩ :: 
  ⟨(some 27), none, .app .k8 [(.u8 0)] 1 (.t 22) (.t 26), [], [], 0⟩ :: 
  ⟨(some 3), none, .mv (.t 27), [], [], 0⟩ :: []) false (4 :: 0 :: 3 :: 34 :: 36 :: 35 :: 37 :: 38 :: 41 :: 42 :: 44 :: 43 :: 45 :: 46 :: []))))
 (.region 8 [
  ⟨(some 14), none, .mv (.t 4), [], [], 0⟩, 
  ⟨(some 15), none, .bin .add (.t 14) (.c (.n 1)), [], [], 0⟩, 
  ⟨(some 4), none, .mv (.t 15), [], [], 0⟩] false (4 :: 0 :: 3 :: 34 :: 36 :: 35 :: 37 :: 38 :: 41 :: 42 :: 44 :: 43 :: 45 :: 46 :: [])))))))
 (.seq (.region 12 (
  ⟨(some 28), none, .mv (.t 0), [], [], 0⟩ :: 
  ⟨(some 29), none, .call false 20 [((.t 28), (some .kb))], [], [], 0⟩ :: 
  ⟨(some 30), none, .mv (.t 3), [], [], 0⟩ :: 
  ⟨(some 31), none, .call false 10 [((.t 30), (some .k8))], [], [], 0⟩ :: 
  ⟨(some 32), none, .binA 32 false (.t 29) (.t 31), [], [], 0⟩ :: 
  ⟨(some 33), none, .mv (.t 32), [], [], 0⟩ :: 
  ⟨(some 34), (some (33, true)), .mv (.t 0), [], [], 0⟩ :: 
  ⟨(some 35), (some (33, true)), .call false 21 [((.t 34), (some .kb))], [], [], 0⟩ :: 
  ⟨(some 36), (some (33, true)), .mv (.t 3), [], [], 0⟩ :: 
  ⟨(some 37), (some (33, true)), .call false 19 [((.t 36), (some .k8))], [], [], 0⟩ :: 
  ⟨(some 38), (some (33, true)), .binA 64 false (.t 35) (.t 37), [], [], 0⟩ :: 
  ⟨(some 39), none, .pick (.t 33) (.t 38) (.c (.bool false)), [], [], 0⟩ :: 
  ⟨(some 40), none, .mv (.t 39), [], [], 0⟩ :: 
  ⟨(some 41), (some (40, true)), .mv (.t 3), [], [], 0⟩ :: 
  ⟨(some 42), (some (40, true)), .bsl .kg [(.t 41)], [], [], 0⟩ :: 
  ⟨(some 43), (some (40, true)), .call false 20 [((.t 42), (some .kb))], [], [], 0⟩ :: 
  ⟨(some 44), (some (40, true)), .mv (.t 0), [], [], 0⟩ :: 
  ⟨(some 45), (some (40, true)), .call false 20 [((.t 44), (some .kb))], [], [], 0⟩ :: 
  ⟨(some 46), (some (40, true)), .binA 32 false (.t 43) (.t 45), [], [], 0⟩ :: 
  ⟨(some 47), none, .pick (.t 40) (.t 46) (.c (.bool false)), [], [], 0⟩ :: 
  ⟨(some 2), none, .mv (.t 47), [], [], 0⟩ :: []) false [2])
 (.ret))))))
def rs8 : List (Nat × Option (Option Nat)) := [(2, none)]

/-- towpath/towpathlaw6.known -/
def mc9_4 : MC := .seq (.region 4 (
  ⟨(some 22), none, .load (some 32) (.t 1), [], [], 0⟩ :: 
  ⟨(some 23), none, .bsl .k8 [(.c (.u8 107))], [], [0], 0⟩ :: 
  ⟨(some 24), none, .cvs (.t 23), [1], [0], 2⟩ :: 
  ⟨(some 25), none, .bsl .k8 [(.c (.u8 97))], [], [0, 1, 2], 0⟩ :: 
  ⟨(some 26), none, .cvs (.t 25), [3], [0, 1, 2], 8⟩ :: 
  ⟨(some 27), none, .bsl .k8 [(.c (.u8 98))], [], [0, 1, 2, 3, 4], 0⟩ :: 
  ⟨(some 28), none, .cvs (.t 27), [5], [0, 1, 2, 3, 4], 32⟩ :: 
  ⟨(some 29), none, .bsl .kg [(.t 26), (.t 28)], [4, 6], [0, 1, 2], 120⟩ :: 
  ⟨(some 30), none, .call false 11 [((.t 24), (some .k8)), ((.t 29), (some .kb))], [2, 7], [0], 254⟩ :: 
  ⟨(some 31), none, .binA 32 false (.t 22) (.t 30), [0, 8], [], 511⟩ :: 
  ⟨(some 32), none, .mv (.t 31), [9, 8], [], 1023⟩ :: 
  ⟨(some 33), (some (32, true)), .load (some 32) (.t 1), [10], [], 2047⟩ :: 
  ⟨(some 34), (some (32, true)), .bldz .k8 ((.u8 0) :: (.u8 0) :: (.u8 0) :: (.u8 0) :: (.u8 0) :: (.u8 0) :: (.u8 0) :: (.u8 0) :: (.u8 0) :: (.u8 0) :: (.u8 0) :: (.u8 0) :: (.u8 0) :: (.u8 0) :: (.u8 0) :: (.u8 0) :: (.u8 0) :: (.u8 0) :: (.u8 0) :: (.u8 0) :: (.u8 0) :: (.u8 0) :: (.u8 0) :: (.u8 0) :: (.u8 0) :: (.u8 0) :: (.u8 0) :: (.u8 0) :: (.u8 0) :: (.u8 0) :: (.u8 0) :: (.u8 0) :: []) [], [10], [], 2047⟩ :: 
  ⟨(some 35), (some (32, true)), .binA 32 true (.t 33) (.t 34), [11, 12, 10], [], 8191⟩ :: 
  ⟨(some 36), none, .pick (.t 32) (.t 35) (.c (.bool false)), [10, 13], [], 16383⟩ :: 
  ⟨(some 37), none, .mv (.t 36), [14, 10], [], 32767⟩ :: 
  ⟨(some 38), (some (37, true)), .mv (.t 2), [15], [], 65535⟩ :: 
  ⟨(some 39), (some (37, true)), .lenS (.t 38), [16, 15], [], 131071⟩ :: 
  ⟨(some 40), (some (37, true)), .bin .eql (.t 39) (.c (.n 40)), [17, 15], [], 262143⟩ :: 
  ⟨(some 41), none, .pick (.t 37) (.t 40) (.c (.bool false)), [15, 18], [], 524287⟩ :: 
  ⟨(some 42), none, .mv (.t 41), [19, 15], [], 1048575⟩ :: 
  ⟨(some 43), (some (42, true)), .mv (.t 3), [20], [], 2097151⟩ :: 
  ⟨(some 44), none, .pick (.t 42) (.t 43) (.c (.bool false)), [20, 21], [], 4194303⟩ :: 
  ⟨(some 45), none, .mv (.t 44), [22, 20], [], 8388607⟩ :: 
  ⟨(some 46), (some (45, true)), .mv (.t 5), [23], [], 16777215⟩ :: 
  ⟨(some 47), (some (45, true)), .un .not (.t 46), [24, 23], [], 33554431⟩ :: 
  ⟨(some 48), none, .pick (.t 45) (.t 47) (.c (.bool false)), [23, 25], [], 67108863⟩ :: 
  ⟨(some 49), none, .mv (.t 48), [26, 23], [], 134217727⟩ :: 
  ⟨(some 50), (some (49, true)), .bsl .k8 [(.c (.u8 120))], [27], [], 268435455⟩ :: 
  ⟨(some 51), (some (49, true)), .cvs (.t 50), [28, 27], [], 536870911⟩ :: 
  ⟨(some 52), (some (49, true)), .bsl .k8 [(.c (.u8 120))], [27], [28, 29], 268435455⟩ :: 
  ⟨(some 53), (some (49, true)), .cvs (.t 52), [30, 27], [28, 29], 1342177279⟩ :: 
  ⟨(some 54), (some (49, true)), .call false 22 [((.t 51), (some .k8)), ((.t 53), (some .k8))], [29, 31, 27, 27], [], 4294967295⟩ :: 
  ⟨(some 55), none, .pick (.t 49) (.t 54) (.c (.bool false)), [27, 32], [], 8589934591⟩ :: 
  ⟨(some 56), none, .mv (.t 55), [33, 32], [], 17179869183⟩ :: 
  ⟨(some 57), (some (56, true)), .bsl .k8 [(.c (.u8 120))], [34], [], 34359738367⟩ :: 
  ⟨(some 58), (some (56, true)), .cvs (.t 57), [35, 34], [], 68719476735⟩ :: 
  ⟨(some 59), (some (56, true)), .bsl .k8 [(.c (.u8 121))], [34], [35, 36], 34359738367⟩ :: 
  ⟨(some 60), (some (56, true)), .cvs (.t 59), [37, 34], [35, 36], 171798691839⟩ :: 
  ⟨(some 61), (some (56, true)), .call false 22 [((.t 58), (some .k8)), ((.t 60), (some .k8))], [36, 38, 34, 34], [], 549755813887⟩ :: 
  ⟨(some 62), (some (56, true)), .un .not (.t 61), [39, 34], [], 1099511627775⟩ :: 
  ⟨(some 63), none, .pick (.t 56) (.t 62) (.c (.bool false)), [34, 40], [], 2199023255551⟩ :: 
  ⟨(some 0), none, .mv (.t 63), (41 :: 39 :: 0 :: 1 :: 2 :: 3 :: 4 :: 5 :: 6 :: 7 :: 8 :: 9 :: 10 :: 11 :: 12 :: 13 :: 14 :: 15 :: 16 :: 17 :: 18 :: 19 :: 20 :: 21 :: 22 :: 23 :: 24 :: 25 :: 26 :: 27 :: 28 :: 29 :: 30 :: 31 :: 32 :: 33 :: 34 :: 35 :: 36 :: 37 :: 38 :: 39 :: 40 :: 41 :: []), [], 4398046511103⟩ :: []) true [0])
 (.ret)
def mc9 : MC := .seq (.region 0 [
  ⟨(some 0), none, .mv (.c (.bool false)), [], [], 0⟩] false (33 :: 34 :: 35 :: 38 :: 39 :: 40 :: 43 :: 46 :: 47 :: 50 :: 52 :: 51 :: 53 :: 54 :: 57 :: 59 :: 58 :: 60 :: 61 :: 62 :: []))
 (.seq (.region 1 (
  ⟨(some 6), none, .bsl .k8 [(.c (.u8 107))], [], [], 0⟩ :: 
  ⟨(some 7), none, .cvs (.t 6), [], [], 0⟩ :: 
  ⟨(some 8), none, .bsl .k8 [(.c (.u8 97)), (.c (.u8 98))], [], [], 0⟩ :: 
  ⟨(some 9), none, .cvs (.t 8), [], [], 0⟩ :: 
  ⟨(some 10), none, .bsl .kg [(.t 9)], [], [], 0⟩ :: 
  ⟨(some 11), none, .call false 11 [((.t 7), (some .k8)), ((.t 10), (some .kb))], [], [], 0⟩ :: 
  ⟨(some 1), none, .alloc (.b8 (List.replicate 32 0)), [], [], 0⟩ :: 
  ⟨none, none, .store (some 32) (.t 1) (.t 11), [], [], 0⟩ :: []) false (1 :: 33 :: 34 :: 35 :: 38 :: 39 :: 40 :: 43 :: 46 :: 47 :: 50 :: 52 :: 51 :: 53 :: 54 :: 57 :: 59 :: 58 :: 60 :: 61 :: 62 :: []))
 (.seq (.region 2 (
  ⟨(some 13), none, .load (some 32) (.t 1), [], [], 0⟩ :: 
  ⟨(some 14), none, .call false 14 [((.t 13), none), ((.c .nil), (some .k8)), ((.c (.n 40)), none)], [], [], 0⟩ :: 
  ⟨(some 12), none, .mv (.t 14), [], [], 0⟩ :: 
  ⟨(some 15), none, .ext 0 (.t 12), [], [], 0⟩ :: 
  ⟨(some 16), none, .ext 1 (.t 12), [], [], 0⟩ :: 
  ⟨(some 2), none, .mv (.t 15), [], [], 0⟩ :: 
  ⟨(some 3), none, .mv (.t 16), [], [], 0⟩ :: []) false (1 :: 33 :: 34 :: 35 :: 2 :: 38 :: 39 :: 40 :: 3 :: 43 :: 46 :: 47 :: 50 :: 52 :: 51 :: 53 :: 54 :: 57 :: 59 :: 58 :: 60 :: 61 :: 62 :: []))
 (.seq (.region 3 (
  ⟨(some 18), none, .load (some 32) (.t 1), [], [], 0⟩ :: 
  ⟨(some 19), none, .call false 14 [((.t 18), none), ((.c .nil), (some .k8)), ((.c (.i (-1))), none)], [], [], 0⟩ :: 
  ⟨(some 17), none, .mv (.t 19), [], [], 0⟩ :: 
  ⟨(some 20), none, .ext 0 (.t 17), [], [], 0⟩ :: 
  ⟨(some 21), none, .ext 1 (.t 17), [], [], 0⟩ :: 
  ⟨(some 4), none, .mv (.t 20), [], [], 0⟩ :: 
  ⟨(some 5), none, .mv (.t 21), [], [], 0⟩ :: []) false (1 :: 33 :: 34 :: 35 :: 2 :: 38 :: 39 :: 40 :: 3 :: 43 :: 5 :: 46 :: 47 :: 50 :: 52 :: 51 :: 53 :: 54 :: 57 :: 59 :: 58 :: 60 :: 61 :: 62 :: []))
 (.cut mc9_4))))
def rs9 : List (Nat × Option (Option Nat)) := [(0, none)]

/-- towpath/towpathref5.Sum256 -/
def mc10 : MC := .seq (.region 0 [
  ⟨(some 2), none, .alloc (.b8 (List.replicate 32 0)), [], [], 0⟩] false [0, 2])
 (.seq (.region 1 [
  ⟨(some 22), none, .call false 23 [], [], [], 0⟩, 
  ⟨(some 3), none, .mv (.t 22), [], [], 0⟩] false [0, 3, 2])
 (.seq (.region 2 [
  ⟨(some 23), none, .call false 24 [], [], [], 0⟩, 
  ⟨(some 4), none, .alloc (.b64 (List.replicate 8 0)), [], [], 0⟩, 
  ⟨none, none, .store (some 8) (.t 4) (.t 23), [], [], 0⟩] false [4, 0, 3, 2])
 (.seq (.region 3 [
  ⟨(some 5), none, .alloc (.b32 (List.replicate 8 0)), [], [], 0⟩] false [4, 5, 0, 3, 2])
 (.seq (.seq (.region 4 [
  ⟨(some 6), none, .mv (.c (.n 0)), [], [], 0⟩] false (6 :: 4 :: 5 :: 0 :: 3 :: 2 :: []))
 (.block 0 (.loop (.seq (.seq (.region 5 [
  ⟨(some 24), none, .mv (.t 6), [], [], 0⟩, 
  ⟨(some 25), none, .bin .lss (.t 24) (.c (.n 8)), [], [], 0⟩] false (25 :: 6 :: 4 :: 5 :: 0 :: 3 :: 2 :: []))
 (.cond (.t 25)
 (.skip)
 (.exit 0)))
 (.seq (.block 1 (.region 7 (
  ⟨(some 28), none, .mv (.t 6), [], [], 0⟩ :: 
  ⟨(some 29), none, .mv (.t 6), [], [], 0⟩ :: 
  ⟨(some 30), none, .idxA 8 1 (.t 4) (.t 29), [], [], 0⟩ :: 
  ⟨(some 31), none, .load none (.t 30), [], [], 0⟩ :: 
  ⟨(some 32), none, .bin .shr (.t 31) (.c (.u64 32)), [], [], 0⟩ :: 
  ⟨(some 33), none, .conv .u32 (.t 32), [], [], 0⟩ :: 
  ⟨(some 34), none, .idxA 8 1 (.t 5) (.t 28), [], [], 0⟩ :: 
  ⟨none, none, .store none (.t 34) (.t 33), [], [], 0⟩ :: []) false (6 :: 4 :: 5 :: 0 :: 3 :: 2 :: [])))
 (.region 6 [
  ⟨(some 26), none, .mv (.t 6), [], [], 0⟩, 
  ⟨(some 27), none, .bin .add (.t 26) (.c (.n 1)), [], [], 0⟩, 
  ⟨(some 6), none, .mv (.t 27), [], [], 0⟩] false (6 :: 4 :: 5 :: 0 :: 3 :: 2 :: [])))))))
 (.seq (.region 8 [
  ⟨(some 35), none, .mv (.t 0), [], [], 0⟩, 
  ⟨(some 36), none, .call false 25 [((.t 35), (some .k8))], [], [], 0⟩, 
  ⟨(some 7), none, .mv (.t 36), [], [], 0⟩] false [7, 5, 3, 2])
 (.seq (.block 2 (.loop (.seq (.seq (.region 9 [
  ⟨(some 37), none, .mv (.t 7), [], [], 0⟩, 
  ⟨(some 38), none, .lenS (.t 37), [], [], 0⟩, 
  ⟨(some 39), none, .bin .geq (.t 38) (.c (.n 64)), [], [], 0⟩] false [39, 7, 5, 3, 2])
 (.cond (.t 39)
 (.skip)
 (.exit 2)))
 (.seq (.block 3 (.seq (.region 11 [
  ⟨(some 8), none, .alloc (.b32 (List.replicate 64 0)), [], [], 0⟩] false [7, 8, 5, 3, 2])
 (.seq (.seq (.region 12 [
  ⟨(some 9), none, .mv (.c (.n 0)), [], [], 0⟩] false (9 :: 7 :: 8 :: 5 :: 3 :: 2 :: []))
 (.block 4 (.loop (.seq (.seq (.region 13 [
  ⟨(some 42), none, .mv (.t 9), [], [], 0⟩, 
  ⟨(some 43), none, .bin .lss (.t 42) (.c (.n 16)), [], [], 0⟩] false (43 :: 9 :: 7 :: 8 :: 5 :: 3 :: 2 :: []))
 (.cond (.t 43)
 (.skip)
 (.exit 4)))
 (.seq (.block 5 (.region 15 (
  ⟨(some 46), none, .mv (.t 9), [], [], 0⟩ :: 
  ⟨(some 47), none, .mv (.t 7), [], [], 0⟩ :: 
  ⟨(some 48), none, .mv (.t 9), [], [], 0⟩ :: 
  ⟨(some 49), none, .bin .mul (.c (.n 4)) (.t 48), [2], [], 4⟩ :: 
  ⟨(some 50), none, .idxS 1 (.t 47) (.t 49), [1, 3], [], 14⟩ :: 
  ⟨(some 51), none, .load none (.t 50), [4], [], 30⟩ :: 
  ⟨(some 52), none, .conv .u32 (.t 51), [5], [], 62⟩ :: 
  ⟨(some 53), none, .bin .shl (.t 52) (.c (.u64 24)), [6], [], 126⟩ :: 
  ⟨(some 54), none, .mv (.t 7), [], [], 0⟩ :: 
  ⟨(some 55), none, .mv (.t 9), [], [], 0⟩ :: 
  ⟨(some 56), none, .bin .mul (.c (.n 4)) (.t 55), [9], [], 512⟩ :: 
  ⟨(some 57), none, .bin .add (.t 56) (.c (.n 1)), [10], [], 1536⟩ :: 
  ⟨(some 58), none, .idxS 1 (.t 54) (.t 57), [8, 11], [], 3840⟩ :: 
  ⟨(some 59), none, .load none (.t 58), [12], [], 7936⟩ :: 
  ⟨(some 60), none, .conv .u32 (.t 59), [13], [], 16128⟩ :: 
  ⟨(some 61), none, .bin .shl (.t 60) (.c (.u64 16)), [14], [], 32512⟩ :: 
  ⟨(some 62), none, .bin .or (.t 53) (.t 61), [7, 15], [], 65534⟩ :: 
  ⟨(some 63), none, .mv (.t 7), [], [], 0⟩ :: 
  ⟨(some 64), none, .mv (.t 9), [], [], 0⟩ :: 
  ⟨(some 65), none, .bin .mul (.c (.n 4)) (.t 64), [18], [], 262144⟩ :: 
  ⟨(some 66), none, .bin .add (.t 65) (.c (.n 2)), [19], [], 786432⟩ :: 
  ⟨(some 67), none, .idxS 1 (.t 63) (.t 66), [17, 20], [], 1966080⟩ :: 
  ⟨(some 68), none, .load none (.t 67), [21], [], 4063232⟩ :: 
  ⟨(some 69), none, .conv .u32 (.t 68), [22], [], 8257536⟩ :: 
  ⟨(some 70), none, .bin .shl (.t 69) (.c (.u64 8)), [23], [], 16646144⟩ :: 
  ⟨(some 71), none, .bin .or (.t 62) (.t 70), [16, 24], [], 33554430⟩ :: 
  ⟨(some 72), none, .mv (.t 7), [], [], 0⟩ :: 
  ⟨(some 73), none, .mv (.t 9), [], [], 0⟩ :: 
  ⟨(some 74), none, .bin .mul (.c (.n 4)) (.t 73), [27], [], 134217728⟩ :: 
  ⟨(some 75), none, .bin .add (.t 74) (.c (.n 3)), [28], [], 402653184⟩ :: 
  ⟨(some 76), none, .idxS 1 (.t 72) (.t 75), [26, 29], [], 1006632960⟩ :: 
  ⟨(some 77), none, .load none (.t 76), [30], [], 2080374784⟩ :: 
  ⟨(some 78), none, .conv .u32 (.t 77), [31], [], 4227858432⟩ :: 
  ⟨(some 79), none, .bin .or (.t 71) (.t 78), [25, 32], [], 8589934590⟩ :: 
  ⟨(some 80), none, .idxA 64 1 (.t 8) (.t 46), (0 :: 0 :: 1 :: 2 :: 3 :: 4 :: 5 :: 6 :: 7 :: 8 :: 9 :: 10 :: 11 :: 12 :: 13 :: 14 :: 15 :: 16 :: 17 :: 18 :: 19 :: 20 :: 21 :: 22 :: 23 :: 24 :: 25 :: 26 :: 27 :: 28 :: 29 :: 30 :: 31 :: 32 :: 33 :: []), [], 17179869183⟩ :: 
  ⟨none, none, .store none (.t 80) (.t 79), (34 :: 33 :: 0 :: 1 :: 2 :: 3 :: 4 :: 5 :: 6 :: 7 :: 8 :: 9 :: 10 :: 11 :: 12 :: 13 :: 14 :: 15 :: 16 :: 17 :: 18 :: 19 :: 20 :: 21 :: 22 :: 23 :: 24 :: 25 :: 26 :: 27 :: 28 :: 29 :: 30 :: 31 :: 32 :: 33 :: []), [], 34359738367⟩ :: []) true (9 :: 7 :: 8 :: 5 :: 3 :: 2 :: [])))
 (.region 14 [
  ⟨(some 44), none, .mv (.t 9), [], [], 0⟩, 
  ⟨(some 45), none, .bin .add (.t 44) (.c (.n 1)), [], [], 0⟩, 
  ⟨(some 9), none, .mv (.t 45), [], [], 0⟩] false (9 :: 7 :: 8 :: 5 :: 3 :: 2 :: [])))))))
 (.seq (.seq (.region 16 [
  ⟨(some 10), none, .mv (.c (.n 16)), [], [], 0⟩] false (10 :: 8 :: 5 :: 3 :: 7 :: 2 :: []))
 (.block 6 (.loop (.seq (.seq (.region 17 [
  ⟨(some 81), none, .mv (.t 10), [], [], 0⟩, 
  ⟨(some 82), none, .bin .lss (.t 81) (.c (.n 64)), [], [], 0⟩] false (82 :: 10 :: 8 :: 5 :: 3 :: 7 :: 2 :: []))
 (.cond (.t 82)
 (.skip)
 (.exit 6)))
 (.seq (.block 7 (.seq (.region 19 (
  ⟨(some 85), none, .mv (.t 10), [], [], 0⟩ :: 
  ⟨(some 86), none, .bin .sub (.t 85) (.c (.n 15)), [0], [], 1⟩ :: 
  ⟨(some 87), none, .idxA 64 1 (.t 8) (.t 86), [1], [], 3⟩ :: 
  ⟨(some 88), none, .load none (.t 87), [2], [], 7⟩ :: 
  ⟨(some 89), none, .mv (.t 10), [], [], 0⟩ :: 
  ⟨(some 90), none, .bin .sub (.t 89) (.c (.n 2)), [4], [], 16⟩ :: 
  ⟨(some 91), none, .idxA 64 1 (.t 8) (.t 90), [5], [], 48⟩ :: 
  ⟨(some 92), none, .load none (.t 91), [6], [], 112⟩ :: 
  ⟨(some 11), none, .mv (.t 88), [3, 0, 1, 2, 3], [], 15⟩ :: 
  ⟨(some 12), none, .mv (.t 92), (7 :: 8 :: 0 :: 1 :: 2 :: 3 :: 4 :: 5 :: 6 :: 7 :: 8 :: []), [], 511⟩ :: []) true (10 :: 8 :: 11 :: 12 :: 5 :: 3 :: 7 :: 2 :: []))
 (.region 20 (
  ⟨(some 93), none, .mv (.t 10), [], [], 0⟩ :: 
  ⟨(some 94), none, .mv (.t 10), [], [], 0⟩ :: 
  ⟨(some 95), none, .bin .sub (.t 94) (.c (.n 16)), [1], [], 2⟩ :: 
  ⟨(some 96), none, .idxA 64 1 (.t 8) (.t 95), [2], [], 6⟩ :: 
  ⟨(some 97), none, .load none (.t 96), [3], [], 14⟩ :: 
  ⟨(some 98), none, .mv (.t 11), [], [], 0⟩ :: 
  ⟨(some 99), none, .call false 26 [((.t 98), none), ((.c (.n 7)), none)], [5], [4], 32⟩ :: 
  ⟨(some 100), none, .mv (.t 11), [], [], 0⟩ :: 
  ⟨(some 101), none, .call false 26 [((.t 100), none), ((.c (.n 18)), none)], [7, 6], [4], 224⟩ :: 
  ⟨(some 102), none, .bin .xor (.t 99) (.t 101), [6, 8], [], 480⟩ :: 
  ⟨(some 103), none, .mv (.t 11), [], [], 0⟩ :: 
  ⟨(some 104), none, .bin .shr (.t 103) (.c (.u64 3)), [10], [], 1024⟩ :: 
  ⟨(some 105), none, .bin .xor (.t 102) (.t 104), [9, 11], [], 4064⟩ :: 
  ⟨(some 106), none, .bin .add (.t 97) (.t 105), [4, 12], [], 8190⟩ :: 
  ⟨(some 107), none, .mv (.t 10), [], [], 0⟩ :: 
  ⟨(some 108), none, .bin .sub (.t 107) (.c (.n 7)), [14], [], 16384⟩ :: 
  ⟨(some 109), none, .idxA 64 1 (.t 8) (.t 108), [15], [], 49152⟩ :: 
  ⟨(some 110), none, .load none (.t 109), [16], [6, 8], 114688⟩ :: 
  ⟨(some 111), none, .bin .add (.t 106) (.t 110), [13, 17], [], 262142⟩ :: 
  ⟨(some 112), none, .mv (.t 12), [], [], 0⟩ :: 
  ⟨(some 113), none, .call false 26 [((.t 112), none), ((.c (.n 17)), none)], [19, 8], [4, 17], 524768⟩ :: 
  ⟨(some 114), none, .mv (.t 12), [], [], 0⟩ :: 
  ⟨(some 115), none, .call false 26 [((.t 114), none), ((.c (.n 19)), none)], [21, 20], [4, 17], 3670496⟩ :: 
  ⟨(some 116), none, .bin .xor (.t 113) (.t 115), [20, 22], [], 7864800⟩ :: 
  ⟨(some 117), none, .mv (.t 12), [], [], 0⟩ :: 
  ⟨(some 118), none, .bin .shr (.t 117) (.c (.u64 10)), [24], [], 16777216⟩ :: 
  ⟨(some 119), none, .bin .xor (.t 116) (.t 118), [23, 25], [], 66585056⟩ :: 
  ⟨(some 120), none, .bin .add (.t 111) (.t 119), [18, 26], [], 134217726⟩ :: 
  ⟨(some 121), none, .idxA 64 1 (.t 8) (.t 93), (0 :: 0 :: 1 :: 2 :: 3 :: 4 :: 5 :: 6 :: 7 :: 8 :: 9 :: 10 :: 11 :: 12 :: 13 :: 14 :: 15 :: 16 :: 17 :: 18 :: 19 :: 20 :: 21 :: 22 :: 23 :: 24 :: 25 :: 26 :: 27 :: []), [], 268435455⟩ :: 
  ⟨none, none, .store none (.t 121) (.t 120), (28 :: 27 :: 22 :: 0 :: 1 :: 2 :: 3 :: 4 :: 5 :: 6 :: 7 :: 8 :: 9 :: 10 :: 11 :: 12 :: 13 :: 14 :: 15 :: 16 :: 17 :: 18 :: 19 :: 20 :: 21 :: 22 :: 23 :: 24 :: 25 :: 26 :: 27 :: []), [], 536870911⟩ :: []) true (10 :: 8 :: 5 :: 3 :: 7 :: 2 :: []))))
 (.region 18 [
  ⟨(some 83), none, .mv (.t 10), [], [], 0⟩, 
  ⟨(some 84), none, .bin .add (.t 83) (.c (.n 1)), [], [], 0⟩, 
  ⟨(some 10), none, .mv (.t 84), [], [], 0⟩] false (10 :: 8 :: 5 :: 3 :: 7 :: 2 :: [])))))))
 (.seq (.region 21 [
  ⟨(some 122), none, .load (some 8) (.t 5), [], [], 0⟩, 
  ⟨(some 13), none, .alloc (.b32 (List.replicate 8 0)), [], [], 0⟩, 
  ⟨none, none, .store (some 8) (.t 13) (.t 122), [], [], 0⟩] false (13 :: 3 :: 8 :: 5 :: 7 :: 2 :: []))
 (.seq (.seq (.region 22 [
  ⟨(some 14), none, .mv (.c (.n 0)), [], [], 0⟩] false (14 :: 13 :: 3 :: 8 :: 5 :: 7 :: 2 :: []))
 (.block 8 (.loop (.seq (.seq (.region 23 [
  ⟨(some 123), none, .mv (.t 14), [], [], 0⟩, 
  ⟨(some 124), none, .bin .lss (.t 123) (.c (.n 64)), [], [], 0⟩] false (124 :: 13 :: 3 :: 14 :: 8 :: 5 :: 7 :: 2 :: []))
 (.cond (.t 124)
 (.skip)
 (.exit 8)))
 (.seq (.block 9 (.seq (.region 25 (
  ⟨(some 127), none, .idxA 8 1 (.t 13) (.c (.n 0)), [], [], 0⟩ :: 
  ⟨(some 128), none, .load none (.t 127), [0], [], 1⟩ :: 
  ⟨(some 129), none, .idxA 8 1 (.t 13) (.c (.n 4)), [], [], 0⟩ :: 
  ⟨(some 130), none, .load none (.t 129), [2], [], 4⟩ :: 
  ⟨(some 15), none, .mv (.t 128), [1, 0, 1], [], 3⟩ :: 
  ⟨(some 16), none, .mv (.t 130), (3 :: 4 :: 0 :: 1 :: 2 :: 3 :: 4 :: []), [], 31⟩ :: []) true (13 :: 16 :: 3 :: 14 :: 8 :: 15 :: 5 :: 7 :: 2 :: []))
 (.seq (.region 26 (
  ⟨(some 131), none, .idxA 8 1 (.t 13) (.c (.n 7)), [], [], 0⟩ :: 
  ⟨(some 132), none, .load none (.t 131), [0], [], 1⟩ :: 
  ⟨(some 133), none, .mv (.t 16), [], [], 0⟩ :: 
  ⟨(some 134), none, .call false 26 [((.t 133), none), ((.c (.n 6)), none)], [2], [1], 4⟩ :: 
  ⟨(some 135), none, .mv (.t 16), [], [], 0⟩ :: 
  ⟨(some 136), none, .call false 26 [((.t 135), none), ((.c (.n 11)), none)], [4, 3], [1], 28⟩ :: 
  ⟨(some 137), none, .bin .xor (.t 134) (.t 136), [3, 5], [], 60⟩ :: 
  ⟨(some 138), none, .mv (.t 16), [], [], 0⟩ :: 
  ⟨(some 139), none, .call false 26 [((.t 138), none), ((.c (.n 25)), none)], [7, 5], [1], 188⟩ :: 
  ⟨(some 140), none, .bin .xor (.t 137) (.t 139), [6, 8], [], 508⟩ :: 
  ⟨(some 141), none, .bin .add (.t 132) (.t 140), [1, 9], [], 1023⟩ :: 
  ⟨(some 142), none, .mv (.t 16), [], [], 0⟩ :: 
  ⟨(some 143), none, .idxA 8 1 (.t 13) (.c (.n 5)), [], [], 0⟩ :: 
  ⟨(some 144), none, .load none (.t 143), [12], [3, 5, 8], 4096⟩ :: 
  ⟨(some 145), none, .bin .and (.t 142) (.t 144), [11, 13], [], 14336⟩ :: 
  ⟨(some 146), none, .mv (.t 16), [], [], 0⟩ :: 
  ⟨(some 147), none, .un .xor (.t 146), [15], [], 32768⟩ :: 
  ⟨(some 148), none, .idxA 8 1 (.t 13) (.c (.n 6)), [], [], 0⟩ :: 
  ⟨(some 149), none, .load none (.t 148), [17], [3, 5, 8], 131072⟩ :: 
  ⟨(some 150), none, .bin .and (.t 147) (.t 149), [16, 18], [], 491520⟩ :: 
  ⟨(some 151), none, .bin .xor (.t 145) (.t 150), [14, 19], [], 1046528⟩ :: 
  ⟨(some 152), none, .bin .add (.t 141) (.t 151), [10, 20], [], 2097151⟩ :: 
  ⟨(some 153), none, .mv (.t 3), [], [], 0⟩ :: 
  ⟨(some 154), none, .mv (.t 14), [], [], 0⟩ :: 
  ⟨(some 155), none, .idxS 1 (.t 153) (.t 154), [22, 23], [], 12582912⟩ :: 
  ⟨(some 156), none, .load none (.t 155), [24], [3, 5, 8], 29360128⟩ :: 
  ⟨(some 157), none, .bin .shr (.t 156) (.c (.u64 32)), [25], [], 62914560⟩ :: 
  ⟨(some 158), none, .conv .u32 (.t 157), [26], [], 130023424⟩ :: 
  ⟨(some 159), none, .bin .add (.t 152) (.t 158), [21, 27], [], 268435455⟩ :: 
  ⟨(some 160), none, .mv (.t 14), [], [], 0⟩ :: 
  ⟨(some 161), none, .idxA 64 1 (.t 8) (.t 160), [29], [], 536870912⟩ :: 
  ⟨(some 162), none, .load none (.t 161), [30], [3, 5, 8], 1610612736⟩ :: 
  ⟨(some 163), none, .bin .add (.t 159) (.t 162), [28, 31], [], 4294967295⟩ :: 
  ⟨(some 17), none, .mv (.t 163), (32 :: 8 :: 0 :: 1 :: 2 :: 3 :: 4 :: 5 :: 6 :: 7 :: 8 :: 9 :: 10 :: 11 :: 12 :: 13 :: 14 :: 15 :: 16 :: 17 :: 18 :: 19 :: 20 :: 21 :: 22 :: 23 :: 24 :: 25 :: 26 :: 27 :: 28 :: 29 :: 30 :: 31 :: 32 :: []), [], 8589934591⟩ :: []) true (15 :: 13 :: 17 :: 14 :: 3 :: 8 :: 5 :: 7 :: 2 :: []))
 (.seq (.region 27 (
  ⟨(some 164), none, .mv (.t 15), [], [], 0⟩ :: 
  ⟨(some 165), none, .call false 26 [((.t 164), none), ((.c (.n 2)), none)], [0], [], 1⟩ :: 
  ⟨(some 166), none, .mv (.t 15), [], [], 0⟩ :: 
  ⟨(some 167), none, .call false 26 [((.t 166), none), ((.c (.n 13)), none)], [2, 1], [], 7⟩ :: 
  ⟨(some 168), none, .bin .xor (.t 165) (.t 167), [1, 3], [], 15⟩ :: 
  ⟨(some 169), none, .mv (.t 15), [], [], 0⟩ :: 
  ⟨(some 170), none, .call false 26 [((.t 169), none), ((.c (.n 22)), none)], [5, 3], [], 47⟩ :: 
  ⟨(some 171), none, .bin .xor (.t 168) (.t 170), [4, 6], [], 127⟩ :: 
  ⟨(some 172), none, .mv (.t 15), [], [], 0⟩ :: 
  ⟨(some 173), none, .idxA 8 1 (.t 13) (.c (.n 1)), [], [], 0⟩ :: 
  ⟨(some 174), none, .load none (.t 173), [9], [1, 3, 6], 512⟩ :: 
  ⟨(some 175), none, .bin .and (.t 172) (.t 174), [8, 10], [], 1792⟩ :: 
  ⟨(some 176), none, .mv (.t 15), [], [], 0⟩ :: 
  ⟨(some 177), none, .idxA 8 1 (.t 13) (.c (.n 2)), [], [], 0⟩ :: 
  ⟨(some 178), none, .load none (.t 177), [13], [1, 3, 6], 8192⟩ :: 
  ⟨(some 179), none, .bin .and (.t 176) (.t 178), [12, 14], [], 28672⟩ :: 
  ⟨(some 180), none, .bin .xor (.t 175) (.t 179), [11, 15], [], 65280⟩ :: 
  ⟨(some 181), none, .idxA 8 1 (.t 13) (.c (.n 1)), [], [], 0⟩ :: 
  ⟨(some 182), none, .load none (.t 181), [17], [1, 3, 6], 131072⟩ :: 
  ⟨(some 183), none, .idxA 8 1 (.t 13) (.c (.n 2)), [], [], 0⟩ :: 
  ⟨(some 184), none, .load none (.t 183), [19], [1, 3, 6], 524288⟩ :: 
  ⟨(some 185), none, .bin .and (.t 182) (.t 184), [18, 20], [], 1966080⟩ :: 
  ⟨(some 186), none, .bin .xor (.t 180) (.t 185), [16, 21], [], 4194048⟩ :: 
  ⟨(some 187), none, .bin .add (.t 171) (.t 186), [7, 22], [], 8388607⟩ :: 
  ⟨(some 18), none, .mv (.t 187), (23 :: 6 :: 0 :: 1 :: 2 :: 3 :: 4 :: 5 :: 6 :: 7 :: 8 :: 9 :: 10 :: 11 :: 12 :: 13 :: 14 :: 15 :: 16 :: 17 :: 18 :: 19 :: 20 :: 21 :: 22 :: 23 :: []), [], 16777215⟩ :: []) true (17 :: 18 :: 13 :: 14 :: 3 :: 8 :: 5 :: 7 :: 2 :: []))
 (.region 28 (
  ⟨(some 188), none, .mv (.t 17), [], [], 0⟩ :: 
  ⟨(some 189), none, .mv (.t 18), [], [], 0⟩ :: 
  ⟨(some 190), none, .bin .add (.t 188) (.t 189), [], [], 0⟩ :: 
  ⟨(some 191), none, .idxA 8 1 (.t 13) (.c (.n 0)), [], [], 0⟩ :: 
  ⟨(some 192), none, .load none (.t 191), [], [], 0⟩ :: 
  ⟨(some 193), none, .idxA 8 1 (.t 13) (.c (.n 1)), [], [], 0⟩ :: 
  ⟨(some 194), none, .load none (.t 193), [], [], 0⟩ :: 
  ⟨(some 195), none, .idxA 8 1 (.t 13) (.c (.n 2)), [], [], 0⟩ :: 
  ⟨(some 196), none, .load none (.t 195), [], [], 0⟩ :: 
  ⟨(some 197), none, .idxA 8 1 (.t 13) (.c (.n 3)), [], [], 0⟩ :: 
  ⟨(some 198), none, .load none (.t 197), [], [], 0⟩ :: 
  ⟨(some 199), none, .mv (.t 17), [], [], 0⟩ :: 
  ⟨(some 200), none, .bin .add (.t 198) (.t 199), [], [], 0⟩ :: 
  ⟨(some 201), none, .idxA 8 1 (.t 13) (.c (.n 4)), [], [], 0⟩ :: 
  ⟨(some 202), none, .load none (.t 201), [], [], 0⟩ :: 
  ⟨(some 203), none, .idxA 8 1 (.t 13) (.c (.n 5)), [], [], 0⟩ :: 
  ⟨(some 204), none, .load none (.t 203), [], [], 0⟩ :: 
  ⟨(some 205), none, .idxA 8 1 (.t 13) (.c (.n 6)), [], [], 0⟩ :: 
  ⟨(some 206), none, .load none (.t 205), [], [], 0⟩ :: 
  ⟨(some 207), none, .bld .k32 ((.t 190) :: (.t 192) :: (.t 194) :: (.t 196) :: (.t 200) :: (.t 202) :: (.t 204) :: (.t 206) :: []), [], [], 0⟩ :: 
  ⟨none, none, .store (some 8) (.t 13) (.t 207), [], [], 0⟩ :: []) false (14 :: 13 :: 3 :: 8 :: 5 :: 7 :: 2 :: []))))))
 (.region 24 [
  ⟨(some 125), none, .mv (.t 14), [], [], 0⟩, 
  ⟨(some 126), none, .bin .add (.t 125) (.c (.n 1)), [], [], 0⟩, 
  ⟨(some 14), none, .mv (.t 126), [], [], 0⟩] false (14 :: 13 :: 3 :: 8 :: 5 :: 7 :: 2 :: [])))))))
 (.seq (.region 29 [
  ⟨(some 19), none, .mv (.c (.n 0)), [], [], 0⟩] false (19 :: 5 :: 13 :: 7 :: 3 :: 2 :: []))
 (.block 10 (.loop (.seq (.seq (.region 30 [
  ⟨(some 208), none, .mv (.t 19), [], [], 0⟩, 
  ⟨(some 209), none, .bin .lss (.t 208) (.c (.n 8)), [], [], 0⟩] false (209 :: 19 :: 5 :: 13 :: 7 :: 3 :: 2 :: []))
 (.cond (.t 209)
 (.skip)
 (.exit 10)))
 (.seq (.block 11 (.region 32 (
  ⟨(some 212), none, .mv (.t 19), [], [], 0⟩ :: 
  ⟨(some 213), none, .idxA 8 1 (.t 5) (.t 212), [0], [], 1⟩ :: 
  ⟨(some 214), none, .load none (.t 213), [1], [], 3⟩ :: 
  ⟨(some 215), none, .mv (.t 19), [], [], 0⟩ :: 
  ⟨(some 216), none, .idxA 8 1 (.t 13) (.t 215), [3], [], 8⟩ :: 
  ⟨(some 217), none, .load none (.t 216), [4], [], 24⟩ :: 
  ⟨(some 218), none, .bin .add (.t 214) (.t 217), [2, 5], [], 63⟩ :: 
  ⟨(some 219), none, .idxA 8 1 (.t 5) (.t 212), (0 :: 0 :: 1 :: 2 :: 3 :: 4 :: 5 :: 6 :: []), [], 127⟩ :: 
  ⟨none, none, .store none (.t 219) (.t 218), (7 :: 6 :: 0 :: 1 :: 2 :: 3 :: 4 :: 5 :: 6 :: []), [], 255⟩ :: []) true (19 :: 5 :: 13 :: 7 :: 3 :: 2 :: [])))
 (.region 31 [
  ⟨(some 210), none, .mv (.t 19), [], [], 0⟩, 
  ⟨(some 211), none, .bin .add (.t 210) (.c (.n 1)), [], [], 0⟩, 
  ⟨(some 19), none, .mv (.t 211), [], [], 0⟩] false (19 :: 5 :: 13 :: 7 :: 3 :: 2 :: [])))))))))))))
 (.region 10 [
  ⟨(some 40), none, .mv (.t 7), [], [], 0⟩, 
  ⟨(some 41), none, .slcS 1 (.t 40) (some (.c (.n 64))) none, [], [], 0⟩, 
  ⟨(some 7), none, .mv (.t 41), [], [], 0⟩] false [7, 5, 3, 2])))))
 (.seq (.region 33 [
  ⟨(some 20), none, .alloc (.b8 (List.replicate 32 0)), [], [], 0⟩] false [5, 20, 2])
 (.seq (.seq (.region 34 [
  ⟨(some 21), none, .mv (.c (.n 0)), [], [], 0⟩] false [21, 5, 20, 2])
 (.block 12 (.loop (.seq (.seq (.region 35 [
  ⟨(some 220), none, .mv (.t 21), [], [], 0⟩, 
  ⟨(some 221), none, .bin .lss (.t 220) (.c (.n 32)), [], [], 0⟩] false [221, 21, 5, 20, 2])
 (.cond (.t 221)
 (.skip)
 (.exit 12)))
 (.seq (.block 13 (.region 37 (
  ⟨(some 224), none, .mv (.t 21), [], [], 0⟩ :: 
  ⟨(some 225), none, .mv (.t 21), [], [], 0⟩ :: 
  ⟨(some 226), none, .bin .quo (.t 225) (.c (.n 4)), [], [], 0⟩ :: 
  ⟨(some 227), none, .idxA 8 1 (.t 5) (.t 226), [], [], 0⟩ :: 
  ⟨(some 228), none, .load none (.t 227), [], [], 0⟩ :: 
  ⟨(some 229), none, .mv (.t 21), [], [], 0⟩ :: 
  ⟨(some 230), none, .bin .rem (.t 229) (.c (.n 4)), [], [], 0⟩ :: 
  ⟨(some 231), none, .bin .mul (.c (.n 8)) (.t 230), [], [], 0⟩ :: 
  ⟨(some 232), none, .bin .sub (.c (.n 24)) (.t 231), [], [], 0⟩ :: 
  ⟨(some 233), none, .bin .shr (.t 228) (.t 232), [], [], 0⟩ :: 
  ⟨(some 234), none, .conv .u8 (.t 233), [], [], 0⟩ :: 
  ⟨(some 235), none, .idxA 32 1 (.t 20) (.t 224), [], [], 0⟩ :: 
  ⟨none, none, .store none (.t 235) (.t 234), [], [], 0⟩ :: []) false [21, 5, 20, 2]))
 (.region 36 [
  ⟨(some 222), none, .mv (.t 21), [], [], 0⟩, 
  ⟨(some 223), none, .bin .add (.t 222) (.c (.n 1)), [], [], 0⟩, 
  ⟨(some 21), none, .mv (.t 223), [], [], 0⟩] false [21, 5, 20, 2]))))))
 (.seq (.region 38 [
  ⟨(some 236), none, .load (some 32) (.t 20), [], [], 0⟩, 
  ⟨none, none, .store (some 32) (.t 2) (.t 236), [], [], 0⟩] false [2])
 (.ret))))))))))
def rs10 : List (Nat × Option (Option Nat)) := [(2, (some (some 32)))]

/-- towpath/hkdf.Mac -/
def mc11 : MC := .seq (.region 0 [
  ⟨(some 4), none, .alloc (.b8 (List.replicate 32 0)), [], [], 0⟩] false [0, 1, 4])
 (.seq (.region 1 (
  ⟨(some 6), none, .mv (.t 0), [], [], 0⟩ :: 
  ⟨(some 7), none, .call false 27 [((.t 6), (some .k8)), ((.c (.u8 54)), none)], [], [], 0⟩ :: 
  ⟨(some 8), none, .bsl .kg [(.t 7)], [], [], 0⟩ :: 
  ⟨(some 9), none, .mv (.t 1), [], [], 0⟩ :: 
  ⟨(some 10), none, .app .kg [.nil] 24 (.t 8) (.t 9), [], [], 0⟩ :: 
  ⟨(some 11), none, .call false 20 [((.t 10), (some .kb))], [], [], 0⟩ :: 
  ⟨(some 5), none, .alloc (.b8 (List.replicate 32 0)), [], [], 0⟩ :: 
  ⟨none, none, .store (some 32) (.t 5) (.t 11), [], [], 0⟩ :: []) false [0, 5, 4])
 (.seq (.region 2 (
  ⟨(some 12), none, .mv (.t 0), [], [], 0⟩ :: 
  ⟨(some 13), none, .call false 27 [((.t 12), (some .k8)), ((.c (.u8 92)), none)], [0], [], 1⟩ :: 
  ⟨(some 14), none, .slcA 32 1 (.t 5) none none, [], [1], 0⟩ :: 
  ⟨(some 15), none, .bsl .kg [(.t 13), (.t 14)], [1, 2], [], 7⟩ :: 
  ⟨(some 16), none, .call false 20 [((.t 15), (some .kb))], [3, 1], [], 15⟩ :: 
  ⟨none, none, .store (some 32) (.t 4) (.t 16), (4 :: 4 :: 0 :: 1 :: 2 :: 3 :: 4 :: []), [], 31⟩ :: []) true [4])
 (.ret)))
def rs11 : List (Nat × Option (Option Nat)) := [(4, (some (some 32)))]

/-- towpath/towpathref5.Mac -/
def mc12_6 : MC := .seq (.region 6 [
  ⟨(some 22), none, .mk .k8 [(.u8 0)] 1 (.c (.n 64)) (.c (.n 64)), [], [], 0⟩, 
  ⟨(some 23), none, .mk .k8 [(.u8 0)] 1 (.c (.n 64)) (.c (.n 64)), [], [0], 0⟩, 
  ⟨(some 7), none, .mv (.t 22), [0, 0], [], 1⟩, 
  ⟨(some 8), none, .mv (.t 23), [1, 2, 0, 1, 2], [], 7⟩] true [7, 8, 5, 1, 4])
 (.seq (.seq (.region 7 [
  ⟨(some 9), none, .mv (.c (.n 0)), [], [], 0⟩] false (9 :: 7 :: 8 :: 5 :: 1 :: 4 :: []))
 (.block 0 (.loop (.seq (.seq (.region 8 [
  ⟨(some 24), none, .mv (.t 9), [], [], 0⟩, 
  ⟨(some 25), none, .bin .lss (.t 24) (.c (.n 64)), [], [], 0⟩] false (25 :: 7 :: 9 :: 8 :: 5 :: 1 :: 4 :: []))
 (.cond (.t 25)
 (.skip)
 (.exit 0)))
 (.seq (.block 1 (.region 10 (
  ⟨(some 28), none, .mv (.t 7), [], [], 0⟩ :: 
  ⟨(some 29), none, .mv (.t 9), [], [], 0⟩ :: 
  ⟨(some 30), none, .mv (.t 8), [], [], 0⟩ :: 
  ⟨(some 31), none, .mv (.t 9), [], [], 0⟩ :: 
  ⟨(some 32), none, .mv (.t 9), [], [], 0⟩ :: 
  ⟨(some 33), none, .idxA 64 1 (.t 5) (.t 32), [4], [], 16⟩ :: 
  ⟨(some 34), none, .load none (.t 33), [5], [], 48⟩ :: 
  ⟨(some 35), none, .bin .xor (.t 34) (.c (.u8 54)), [6], [], 112⟩ :: 
  ⟨(some 36), none, .mv (.t 9), [], [], 0⟩ :: 
  ⟨(some 37), none, .idxA 64 1 (.t 5) (.t 36), [8], [], 256⟩ :: 
  ⟨(some 38), none, .load none (.t 37), [9], [], 768⟩ :: 
  ⟨(some 39), none, .bin .xor (.t 38) (.c (.u8 92)), [10], [], 1792⟩ :: 
  ⟨(some 40), none, .idxS 1 (.t 28) (.t 29), (0 :: 1 :: 0 :: 1 :: 4 :: 5 :: 6 :: 7 :: 10 :: []), [], 2035⟩ :: 
  ⟨none, none, .store none (.t 40) (.t 35), (12 :: 7 :: 0 :: 1 :: 4 :: 5 :: 6 :: 7 :: 10 :: []), [], 6131⟩ :: 
  ⟨(some 41), none, .idxS 1 (.t 30) (.t 31), (2 :: 3 :: 0 :: 1 :: 2 :: 3 :: 4 :: 5 :: 6 :: 7 :: 8 :: 9 :: 10 :: 11 :: 12 :: 13 :: []), [], 16383⟩ :: 
  ⟨none, none, .store none (.t 41) (.t 39), (14 :: 11 :: 13 :: 0 :: 1 :: 2 :: 3 :: 4 :: 5 :: 6 :: 7 :: 8 :: 9 :: 10 :: 11 :: 12 :: 13 :: []), [], 32767⟩ :: []) true (9 :: 7 :: 8 :: 5 :: 1 :: 4 :: [])))
 (.region 9 [
  ⟨(some 26), none, .mv (.t 9), [], [], 0⟩, 
  ⟨(some 27), none, .bin .add (.t 26) (.c (.n 1)), [], [], 0⟩, 
  ⟨(some 9), none, .mv (.t 27), [], [], 0⟩] false (9 :: 7 :: 8 :: 5 :: 1 :: 4 :: [])))))))
 (.seq (.region 11 (
  ⟨(some 42), none, .mv (.t 7), [], [], 0⟩ :: 
  ⟨(some 43), none, .mv (.t 1), [], [], 0⟩ :: 
  ⟨(some 44), none, .app .k8 [(.u8 0)] 1 (.t 42) (.t 43), [], [], 0⟩ :: 
  ⟨(some 45), none, .call false 10 [((.t 44), (some .k8))], [], [], 0⟩ :: 
  ⟨(some 10), none, .alloc (.b8 (List.replicate 32 0)), [], [], 0⟩ :: 
  ⟨none, none, .store (some 32) (.t 10) (.t 45), [], [], 0⟩ :: []) false [8, 10, 4])
 (.seq (.region 12 [
  ⟨(some 46), none, .mv (.t 8), [], [], 0⟩, 
  ⟨(some 47), none, .slcA 32 1 (.t 10) none none, [], [], 0⟩, 
  ⟨(some 48), none, .app .k8 [(.u8 0)] 1 (.t 46) (.t 47), [], [], 0⟩, 
  ⟨(some 49), none, .call false 10 [((.t 48), (some .k8))], [], [], 0⟩, 
  ⟨none, none, .store (some 32) (.t 4) (.t 49), [], [], 0⟩] false [4])
 (.ret))))
def mc12 : MC := .seq (.region 0 [
  ⟨(some 4), none, .alloc (.b8 (List.replicate 32 0)), [], [], 0⟩] false [0, 1, 4])
 (.seq (.region 1 [
  ⟨(some 5), none, .alloc (.b8 (List.replicate 64 0)), [], [], 0⟩] false [0, 5, 1, 4])
 (.seq (.seq (.region 2 [
  ⟨(some 11), none, .mv (.t 0), [], [], 0⟩, 
  ⟨(some 12), none, .lenS (.t 11), [], [], 0⟩, 
  ⟨(some 13), none, .bin .gtr (.t 12) (.c (.n 64)), [], [], 0⟩] false [13, 0, 5, 1, 4])
 (.cond (.t 13)
 (.seq (.region 3 [
  ⟨(some 14), none, .mv (.t 0), [], [], 0⟩, 
  ⟨(some 15), none, .call false 10 [((.t 14), (some .k8))], [], [], 0⟩, 
  ⟨(some 6), none, .alloc (.b8 (List.replicate 32 0)), [], [], 0⟩, 
  ⟨none, none, .store (some 32) (.t 6) (.t 15), [], [], 0⟩] false [5, 6, 1, 4])
 (.region 4 [
  ⟨(some 16), none, .slcA 64 1 (.t 5) none none, [], [], 0⟩, 
  ⟨(some 17), none, .slcA 32 1 (.t 6) none none, [], [], 0⟩, 
  ⟨(some 18), none, .copy (.t 16) (.t 17), [0, 1], [], 3⟩] true [5, 1, 4]))
 (.region 5 [
  ⟨(some 19), none, .slcA 64 1 (.t 5) none none, [], [], 0⟩, 
  ⟨(some 20), none, .mv (.t 0), [], [], 0⟩, 
  ⟨(some 21), none, .copy (.t 19) (.t 20), [], [], 0⟩] false [5, 1, 4])))
 (.cut mc12_6)))
def rs12 : List (Nat × Option (Option Nat)) := [(4, (some (some 32)))]

/-- towpath/hkdf.Extract -/
def mc13 : MC := .seq (.region 0 [
  ⟨(some 4), none, .alloc (.b8 (List.replicate 32 0)), [], [], 0⟩] false [0, 1, 4])
 (.seq (.region 1 [
  ⟨(some 5), none, .mv (.t 0), [], [], 0⟩, 
  ⟨(some 6), none, .mv (.t 1), [], [], 0⟩, 
  ⟨(some 7), none, .bsl .kg [(.t 6)], [], [], 0⟩, 
  ⟨(some 8), none, .call false 11 [((.t 5), (some .k8)), ((.t 7), (some .kb))], [], [], 0⟩, 
  ⟨none, none, .store (some 32) (.t 4) (.t 8), [], [], 0⟩] false [4])
 (.ret))
def rs13 : List (Nat × Option (Option Nat)) := [(4, (some (some 32)))]

/-- towpath/hkdf.Expand -/
def mc14 : MC := .seq (.region 0 [
  ⟨(some 3), none, .box (.t 0), [], [], 0⟩, 
  ⟨(some 6), none, .mv (.c .nil), [], [], 0⟩, 
  ⟨(some 7), none, .mv (.c (.bool false)), [], [], 0⟩] false [2, 15, 16, 3, 1])
 (.seq (.seq (.region 1 (
  ⟨(some 12), none, .mv (.t 2), [], [], 0⟩ :: 
  ⟨(some 13), none, .bin .lss (.t 12) (.c (.n 0)), [], [], 0⟩ :: 
  ⟨(some 14), none, .mv (.t 13), [], [], 0⟩ :: 
  ⟨(some 15), (some (14, false)), .mv (.t 2), [], [], 0⟩ :: 
  ⟨(some 16), (some (14, false)), .bin .gtr (.t 15) (.c (.n 8160)), [], [], 0⟩ :: 
  ⟨(some 17), none, .pick (.t 14) (.c (.bool true)) (.t 16), [], [], 0⟩ :: []) false [17, 2, 3, 1])
 (.cond (.t 17)
 (.seq (.region 2 [
  ⟨(some 6), none, .mv (.c .nil), [], [], 0⟩, 
  ⟨(some 7), none, .mv (.c (.bool false)), [], [], 0⟩] false [6, 7])
 (.ret))
 (.skip)))
 (.seq (.region 3 [
  ⟨(some 8), none, .mv (.c .nil), [], [], 0⟩, 
  ⟨(some 9), none, .mv (.c .nil), [], [], 0⟩] false [8, 2, 3, 9, 1])
 (.seq (.seq (.region 4 [
  ⟨(some 10), none, .mv (.c (.u8 1)), [], [], 0⟩] false (8 :: 2 :: 3 :: 9 :: 1 :: 10 :: []))
 (.block 0 (.loop (.seq (.seq (.region 5 [
  ⟨(some 18), none, .mv (.t 8), [], [], 0⟩, 
  ⟨(some 19), none, .lenS (.t 18), [], [], 0⟩, 
  ⟨(some 20), none, .mv (.t 2), [], [], 0⟩, 
  ⟨(some 21), none, .bin .lss (.t 19) (.t 20), [], [], 0⟩] false (21 :: 3 :: 9 :: 1 :: 10 :: 8 :: 2 :: []))
 (.cond (.t 21)
 (.skip)
 (.exit 0)))
 (.seq (.block 1 (.seq (.region 7 (
  ⟨(some 24), none, .slcA 32 1 (.t 3) none none, [], [], 0⟩ :: 
  ⟨(some 25), none, .mv (.t 9), [], [], 0⟩ :: 
  ⟨(some 26), none, .mv (.t 1), [], [], 0⟩ :: 
  ⟨(some 27), none, .mv (.t 10), [], [], 0⟩ :: 
  ⟨(some 28), none, .bsl .k8 [(.t 27)], [], [], 0⟩ :: 
  ⟨(some 29), none, .bsl .kg [(.t 25), (.t 26), (.t 28)], [], [], 0⟩ :: 
  ⟨(some 30), none, .call false 11 [((.t 24), (some .k8)), ((.t 29), (some .kb))], [], [], 0⟩ :: 
  ⟨(some 11), none, .alloc (.b8 (List.replicate 32 0)), [], [], 0⟩ :: 
  ⟨none, none, .store (some 32) (.t 11) (.t 30), [], [], 0⟩ :: []) false (11 :: 8 :: 10 :: 2 :: 3 :: 1 :: []))
 (.seq (.region 8 [
  ⟨(some 31), none, .slcA 32 1 (.t 11) none none, [], [], 0⟩, 
  ⟨(some 9), none, .mv (.t 31), [], [], 0⟩] false (8 :: 9 :: 10 :: 2 :: 3 :: 1 :: []))
 (.region 9 [
  ⟨(some 32), none, .mv (.t 8), [], [], 0⟩, 
  ⟨(some 33), none, .mv (.t 9), [], [], 0⟩, 
  ⟨(some 34), none, .app .k8 [(.u8 0)] 1 (.t 32) (.t 33), [], [], 0⟩, 
  ⟨(some 8), none, .mv (.t 34), [], [], 0⟩] false (10 :: 8 :: 2 :: 3 :: 9 :: 1 :: [])))))
 (.region 6 [
  ⟨(some 22), none, .mv (.t 10), [], [], 0⟩, 
  ⟨(some 23), none, .bin .add (.t 22) (.c (.u8 1)), [], [], 0⟩, 
  ⟨(some 10), none, .mv (.t 23), [], [], 0⟩] false (8 :: 2 :: 3 :: 9 :: 1 :: 10 :: [])))))))
 (.seq (.region 10 [
  ⟨(some 35), none, .mv (.t 8), [], [], 0⟩, 
  ⟨(some 36), none, .mv (.t 2), [], [], 0⟩, 
  ⟨(some 37), none, .slcS 1 (.t 35) none (some (.t 36)), [], [], 0⟩, 
  ⟨(some 6), none, .mv (.t 37), [], [], 0⟩, 
  ⟨(some 7), none, .mv (.c (.bool true)), [], [], 0⟩] false [6, 7])
 (.ret)))))
def rs14 : List (Nat × Option (Option Nat)) := [(6, none), (7, none)]

/-- towpath/towpathref5.Expand -/
def mc15 : MC := .seq (.region 0 [
  ⟨(some 3), none, .box (.t 0), [], [], 0⟩, 
  ⟨(some 6), none, .mv (.c .nil), [], [], 0⟩, 
  ⟨(some 7), none, .mv (.c (.bool false)), [], [], 0⟩] false [2, 15, 16, 3, 1])
 (.seq (.seq (.region 1 (
  ⟨(some 12), none, .mv (.t 2), [], [], 0⟩ :: 
  ⟨(some 13), none, .bin .lss (.t 12) (.c (.n 0)), [], [], 0⟩ :: 
  ⟨(some 14), none, .mv (.t 13), [], [], 0⟩ :: 
  ⟨(some 15), (some (14, false)), .mv (.t 2), [], [], 0⟩ :: 
  ⟨(some 16), (some (14, false)), .bin .gtr (.t 15) (.c (.n 8160)), [], [], 0⟩ :: 
  ⟨(some 17), none, .pick (.t 14) (.c (.bool true)) (.t 16), [], [], 0⟩ :: []) false [17, 2, 3, 1])
 (.cond (.t 17)
 (.seq (.region 2 [
  ⟨(some 6), none, .mv (.c .nil), [], [], 0⟩, 
  ⟨(some 7), none, .mv (.c (.bool false)), [], [], 0⟩] false [6, 7])
 (.ret))
 (.skip)))
 (.seq (.region 3 [
  ⟨(some 8), none, .mv (.c .nil), [], [], 0⟩, 
  ⟨(some 9), none, .mv (.c .nil), [], [], 0⟩] false [8, 2, 3, 9, 1])
 (.seq (.seq (.region 4 [
  ⟨(some 10), none, .mv (.c (.n 1)), [], [], 0⟩] false (8 :: 2 :: 3 :: 9 :: 1 :: 10 :: []))
 (.block 0 (.loop (.seq (.seq (.region 5 [
  ⟨(some 18), none, .mv (.t 8), [], [], 0⟩, 
  ⟨(some 19), none, .lenS (.t 18), [], [], 0⟩, 
  ⟨(some 20), none, .mv (.t 2), [], [], 0⟩, 
  ⟨(some 21), none, .bin .lss (.t 19) (.t 20), [], [], 0⟩] false (21 :: 3 :: 9 :: 1 :: 10 :: 8 :: 2 :: []))
 (.cond (.t 21)
 (.skip)
 (.exit 0)))
 (.seq (.block 1 (.seq (.region 7 (
  ⟨(some 24), none, .slcA 32 1 (.t 3) none none, [], [], 0⟩ :: 
  ⟨(some 25), none, .mv (.t 9), [], [], 0⟩ :: 
  ⟨(some 26), none, .app .k8 [(.u8 0)] 1 (.c .nil) (.t 25), [1], [0], 2⟩ :: 
  ⟨(some 27), none, .mv (.t 1), [], [], 0⟩ :: 
  ⟨(some 28), none, .app .k8 [(.u8 0)] 1 (.t 26) (.t 27), [2, 3, 2], [0], 14⟩ :: 
  ⟨(some 29), none, .mv (.t 10), [], [], 0⟩ :: 
  ⟨(some 30), none, .conv .u8 (.t 29), [5], [], 32⟩ :: 
  ⟨(some 31), none, .bsl .k8 [(.t 30)], [6], [0, 2, 4], 96⟩ :: 
  ⟨(some 32), none, .app .k8 [(.u8 0)] 1 (.t 28) (.t 31), [4, 7, 4], [0], 254⟩ :: 
  ⟨(some 33), none, .call false 12 [((.t 24), (some .k8)), ((.t 32), (some .k8))], [0, 8, 8], [], 511⟩ :: 
  ⟨(some 11), none, .alloc (.b8 (List.replicate 32 0)), [], (0 :: 2 :: 4 :: 7 :: 8 :: 9 :: []), 0⟩ :: 
  ⟨none, none, .store (some 32) (.t 11) (.t 33), (10 :: 9 :: 9 :: 0 :: 1 :: 2 :: 3 :: 4 :: 5 :: 6 :: 7 :: 8 :: 9 :: 10 :: []), [], 2047⟩ :: []) true (11 :: 8 :: 10 :: 2 :: 3 :: 1 :: []))
 (.seq (.region 8 [
  ⟨(some 34), none, .slcA 32 1 (.t 11) none none, [], [], 0⟩, 
  ⟨(some 9), none, .mv (.t 34), [], [], 0⟩] false (8 :: 9 :: 10 :: 2 :: 3 :: 1 :: []))
 (.region 9 [
  ⟨(some 35), none, .mv (.t 8), [], [], 0⟩, 
  ⟨(some 36), none, .mv (.t 9), [], [], 0⟩, 
  ⟨(some 37), none, .app .k8 [(.u8 0)] 1 (.t 35) (.t 36), [], [], 0⟩, 
  ⟨(some 8), none, .mv (.t 37), [], [], 0⟩] false (10 :: 8 :: 2 :: 3 :: 9 :: 1 :: [])))))
 (.region 6 [
  ⟨(some 22), none, .mv (.t 10), [], [], 0⟩, 
  ⟨(some 23), none, .bin .add (.t 22) (.c (.n 1)), [], [], 0⟩, 
  ⟨(some 10), none, .mv (.t 23), [], [], 0⟩] false (8 :: 2 :: 3 :: 9 :: 1 :: 10 :: [])))))))
 (.seq (.region 10 [
  ⟨(some 38), none, .mv (.t 8), [], [], 0⟩, 
  ⟨(some 39), none, .mv (.t 2), [], [], 0⟩, 
  ⟨(some 40), none, .slcS 1 (.t 38) none (some (.t 39)), [], [], 0⟩, 
  ⟨(some 6), none, .mv (.t 40), [], [], 0⟩, 
  ⟨(some 7), none, .mv (.c (.bool true)), [], [], 0⟩] false [6, 7])
 (.ret)))))
def rs15 : List (Nat × Option (Option Nat)) := [(6, none), (7, none)]

/-- towpath/hkdf.Mix -/
def mc16 : MC := .seq (.region 0 [
  ⟨(some 2), none, .box (.t 0), [], [], 0⟩, 
  ⟨(some 4), none, .alloc (.b8 (List.replicate 32 0)), [], [], 0⟩, 
  ⟨(some 5), none, .alloc (.b8 (List.replicate 32 0)), [], [], 0⟩] false [2, 1, 4, 5])
 (.seq (.region 1 (
  ⟨(some 9), none, .slcA 32 1 (.t 2) none none, [], [], 0⟩ :: 
  ⟨(some 10), none, .mv (.t 1), [], [], 0⟩ :: 
  ⟨(some 11), none, .call false 13 [((.t 9), (some .k8)), ((.t 10), (some .k8))], [], [], 0⟩ :: 
  ⟨(some 12), none, .call false 14 [((.t 11), none), ((.c .nil), (some .k8)), ((.c (.n 64)), none)], [], [], 0⟩ :: 
  ⟨(some 8), none, .mv (.t 12), [], [], 0⟩ :: 
  ⟨(some 13), none, .ext 0 (.t 8), [], [], 0⟩ :: 
  ⟨(some 14), none, .ext 1 (.t 8), [], [], 0⟩ :: 
  ⟨(some 6), none, .mv (.t 13), [], [], 0⟩ :: 
  ⟨(some 7), none, .mv (.t 14), [], [], 0⟩ :: []) false [6, 4, 5])
 (.seq (.region 2 (
  ⟨(some 15), none, .mv (.t 6), [], [], 0⟩ :: 
  ⟨(some 16), none, .slcS 1 (.t 15) none (some (.c (.n 32))), [0], [], 1⟩ :: 
  ⟨(some 17), none, .s2a 32 (.t 16), [1], [], 3⟩ :: 
  ⟨(some 18), none, .load (some 32) (.t 17), [2], [], 7⟩ :: 
  ⟨(some 19), none, .mv (.t 6), [], [], 0⟩ :: 
  ⟨(some 20), none, .slcS 1 (.t 19) (some (.c (.n 32))) none, [4], [], 16⟩ :: 
  ⟨(some 21), none, .s2a 32 (.t 20), [5], [], 48⟩ :: 
  ⟨(some 22), none, .load (some 32) (.t 21), [6], [], 112⟩ :: 
  ⟨none, none, .store (some 32) (.t 4) (.t 18), [3, 0, 1, 2, 3], [7], 15⟩ :: 
  ⟨none, none, .store (some 32) (.t 5) (.t 22), (7 :: 8 :: 0 :: 1 :: 2 :: 3 :: 4 :: 5 :: 6 :: 7 :: 8 :: []), [], 511⟩ :: []) true [4, 5])
 (.ret)))
def rs16 : List (Nat × Option (Option Nat)) := [(4, (some (some 32))), (5, (some (some 32)))]

/-- towpath/towpathref5.Mix -/
def mc17 : MC := .seq (.region 0 [
  ⟨(some 2), none, .box (.t 0), [], [], 0⟩, 
  ⟨(some 4), none, .alloc (.b8 (List.replicate 32 0)), [], [], 0⟩, 
  ⟨(some 5), none, .alloc (.b8 (List.replicate 32 0)), [], [], 0⟩] false [2, 1, 4, 5])
 (.seq (.region 1 (
  ⟨(some 11), none, .slcA 32 1 (.t 2) none none, [], [], 0⟩ :: 
  ⟨(some 12), none, .mv (.t 1), [], [], 0⟩ :: 
  ⟨(some 13), none, .call false 12 [((.t 11), (some .k8)), ((.t 12), (some .k8))], [], [], 0⟩ :: 
  ⟨(some 14), none, .call false 15 [((.t 13), none), ((.c .nil), (some .k8)), ((.c (.n 64)), none)], [], [], 0⟩ :: 
  ⟨(some 10), none, .mv (.t 14), [], [], 0⟩ :: 
  ⟨(some 15), none, .ext 0 (.t 10), [], [], 0⟩ :: 
  ⟨(some 16), none, .ext 1 (.t 10), [], [], 0⟩ :: 
  ⟨(some 6), none, .mv (.t 15), [], [], 0⟩ :: 
  ⟨(some 7), none, .mv (.t 16), [], [], 0⟩ :: []) false [6, 4, 5])
 (.seq (.region 2 [
  ⟨(some 8), none, .alloc (.b8 (List.replicate 32 0)), [], [], 0⟩, 
  ⟨(some 9), none, .alloc (.b8 (List.replicate 32 0)), [], [], 0⟩] false [8, 6, 9, 4, 5])
 (.seq (.region 3 [
  ⟨(some 17), none, .slcA 32 1 (.t 8) none none, [], [], 0⟩, 
  ⟨(some 18), none, .mv (.t 6), [], [], 0⟩, 
  ⟨(some 19), none, .slcS 1 (.t 18) none (some (.c (.n 32))), [1], [], 2⟩, 
  ⟨(some 20), none, .copy (.t 17) (.t 19), [0, 2], [], 7⟩] true [9, 6, 8, 4, 5])
 (.seq (.region 4 [
  ⟨(some 21), none, .slcA 32 1 (.t 9) none none, [], [], 0⟩, 
  ⟨(some 22), none, .mv (.t 6), [], [], 0⟩, 
  ⟨(some 23), none, .slcS 1 (.t 22) (some (.c (.n 32))) none, [1], [], 2⟩, 
  ⟨(some 24), none, .copy (.t 21) (.t 23), [0, 2], [], 7⟩] true [8, 9, 4, 5])
 (.seq (.region 5 [
  ⟨(some 25), none, .load (some 32) (.t 8), [], [], 0⟩, 
  ⟨(some 26), none, .load (some 32) (.t 9), [], [], 0⟩, 
  ⟨none, none, .store (some 32) (.t 4) (.t 25), [0, 0], [1], 1⟩, 
  ⟨none, none, .store (some 32) (.t 5) (.t 26), [1, 2, 0, 1, 2], [], 7⟩] true [4, 5])
 (.ret))))))
def rs17 : List (Nat × Option (Option Nat)) := [(4, (some (some 32))), (5, (some (some 32)))]

/-- towpath/towpathlaw5.known -/
def mc18_2 : MC := .seq (.region 2 (
  ⟨(some 11), none, .idxA 32 1 (.t 1) (.c (.n 0)), [], [], 0⟩ :: 
  ⟨(some 12), none, .load none (.t 11), [], [], 0⟩ :: 
  ⟨(some 13), none, .bin .eql (.t 12) (.c (.u8 186)), [], [], 0⟩ :: 
  ⟨(some 14), none, .mv (.t 13), [], [], 0⟩ :: 
  ⟨(some 15), (some (14, true)), .idxA 32 1 (.t 1) (.c (.n 1)), [], [], 0⟩ :: 
  ⟨(some 16), (some (14, true)), .load none (.t 15), [], [], 0⟩ :: 
  ⟨(some 17), (some (14, true)), .bin .eql (.t 16) (.c (.u8 120)), [], [], 0⟩ :: 
  ⟨(some 18), none, .pick (.t 14) (.t 17) (.c (.bool false)), [], [], 0⟩ :: 
  ⟨(some 19), none, .mv (.t 18), [], [], 0⟩ :: 
  ⟨(some 20), (some (19, true)), .idxA 32 1 (.t 1) (.c (.n 31)), [], [], 0⟩ :: 
  ⟨(some 21), (some (19, true)), .load none (.t 20), [], [], 0⟩ :: 
  ⟨(some 22), (some (19, true)), .bin .eql (.t 21) (.c (.u8 173)), [], [], 0⟩ :: 
  ⟨(some 23), none, .pick (.t 19) (.t 22) (.c (.bool false)), [], [], 0⟩ :: 
  ⟨(some 24), none, .mv (.t 23), [], [], 0⟩ :: 
  ⟨(some 25), (some (24, true)), .idxA 64 1 (.t 2) (.c (.n 0)), [], [], 0⟩ :: 
  ⟨(some 26), (some (24, true)), .load none (.t 25), [], [], 0⟩ :: 
  ⟨(some 27), (some (24, true)), .bin .eql (.t 26) (.c (.u8 221)), [], [], 0⟩ :: 
  ⟨(some 28), none, .pick (.t 24) (.t 27) (.c (.bool false)), [], [], 0⟩ :: 
  ⟨(some 29), none, .mv (.t 28), [], [], 0⟩ :: 
  ⟨(some 30), (some (29, true)), .idxA 64 1 (.t 2) (.c (.n 1)), [], [], 0⟩ :: 
  ⟨(some 31), (some (29, true)), .load none (.t 30), [], [], 0⟩ :: 
  ⟨(some 32), (some (29, true)), .bin .eql (.t 31) (.c (.u8 175)), [], [], 0⟩ :: 
  ⟨(some 33), none, .pick (.t 29) (.t 32) (.c (.bool false)), [], [], 0⟩ :: 
  ⟨(some 34), none, .mv (.t 33), [], [], 0⟩ :: 
  ⟨(some 35), (some (34, true)), .idxA 64 1 (.t 2) (.c (.n 63)), [], [], 0⟩ :: 
  ⟨(some 36), (some (34, true)), .load none (.t 35), [], [], 0⟩ :: 
  ⟨(some 37), (some (34, true)), .bin .eql (.t 36) (.c (.u8 159)), [], [], 0⟩ :: 
  ⟨(some 38), none, .pick (.t 34) (.t 37) (.c (.bool false)), [], [], 0⟩ :: 
  ⟨(some 0), none, .mv (.t 38), [], [], 0⟩ :: []) false [0])
 (.ret)
def mc18 : MC := .seq (.region 0 [
  ⟨(some 0), none, .mv (.c (.bool false)), [], [], 0⟩] false (15 :: 16 :: 17 :: 20 :: 21 :: 22 :: 25 :: 26 :: 27 :: 30 :: 31 :: 32 :: 35 :: 36 :: 37 :: []))
 (.seq (.region 1 (
  ⟨(some 3), none, .bsl .k8 [(.c (.u8 97)), (.c (.u8 98)), (.c (.u8 99))], [], [], 0⟩ :: 
  ⟨(some 4), none, .cvs (.t 3), [], [], 0⟩ :: 
  ⟨(some 5), none, .bsl .kg [(.t 4)], [], [], 0⟩ :: 
  ⟨(some 6), none, .call false 20 [((.t 5), (some .kb))], [], [], 0⟩ :: 
  ⟨(some 7), none, .bsl .k8 [(.c (.u8 97)), (.c (.u8 98)), (.c (.u8 99))], [], [], 0⟩ :: 
  ⟨(some 8), none, .cvs (.t 7), [], [], 0⟩ :: 
  ⟨(some 9), none, .bsl .kg [(.t 8)], [], [], 0⟩ :: 
  ⟨(some 10), none, .call false 21 [((.t 9), (some .kb))], [], [], 0⟩ :: 
  ⟨(some 1), none, .alloc (.b8 (List.replicate 32 0)), [], [], 0⟩ :: 
  ⟨(some 2), none, .alloc (.b8 (List.replicate 64 0)), [], [], 0⟩ :: 
  ⟨none, none, .store (some 32) (.t 1) (.t 6), [], [], 0⟩ :: 
  ⟨none, none, .store (some 64) (.t 2) (.t 10), [], [], 0⟩ :: []) false (1 :: 15 :: 16 :: 17 :: 20 :: 21 :: 22 :: 2 :: 25 :: 26 :: 27 :: 30 :: 31 :: 32 :: 35 :: 36 :: 37 :: []))
 (.cut mc18_2))
def rs18 : List (Nat × Option (Option Nat)) := [(0, none)]

/-- towpath/towpathref5.Sum512 -/
def mc19_9 : MC := .seq (.region 9 [
  ⟨(some 48), none, .mv (.t 0), [], [], 0⟩, 
  ⟨(some 49), none, .lenS (.t 48), [], [], 0⟩, 
  ⟨(some 50), none, .conv .u64 (.t 49), [], [], 0⟩, 
  ⟨(some 51), none, .bin .mul (.t 50) (.c (.u64 8)), [], [], 0⟩, 
  ⟨(some 7), none, .mv (.t 51), [], [], 0⟩] false [5, 7, 4, 3, 2])
 (.seq (.seq (.region 10 [
  ⟨(some 8), none, .mv (.c (.n 7)), [], [], 0⟩] false (8 :: 5 :: 7 :: 4 :: 3 :: 2 :: []))
 (.block 2 (.loop (.seq (.seq (.region 11 [
  ⟨(some 52), none, .mv (.t 8), [], [], 0⟩, 
  ⟨(some 53), none, .bin .geq (.t 52) (.c (.n 0)), [], [], 0⟩] false (53 :: 5 :: 7 :: 8 :: 4 :: 3 :: 2 :: []))
 (.cond (.t 53)
 (.skip)
 (.exit 2)))
 (.seq (.block 3 (.region 13 (
  ⟨(some 56), none, .mv (.t 5), [], [], 0⟩ :: 
  ⟨(some 57), none, .mv (.t 7), [], [], 0⟩ :: 
  ⟨(some 58), none, .mv (.t 8), [], [], 0⟩ :: 
  ⟨(some 59), none, .bin .mul (.c (.n 8)) (.t 58), [], [], 0⟩ :: 
  ⟨(some 60), none, .bin .shr (.t 57) (.t 59), [], [], 0⟩ :: 
  ⟨(some 61), none, .conv .u8 (.t 60), [], [], 0⟩ :: 
  ⟨(some 62), none, .bsl .k8 [(.t 61)], [], [], 0⟩ :: 
  ⟨(some 63), none, .app .k8 [(.u8 0)] 1 (.t 56) (.t 62), [], [], 0⟩ :: 
  ⟨(some 5), none, .mv (.t 63), [], [], 0⟩ :: []) false (8 :: 5 :: 7 :: 4 :: 3 :: 2 :: [])))
 (.region 12 [
  ⟨(some 54), none, .mv (.t 8), [], [], 0⟩, 
  ⟨(some 55), none, .bin .sub (.t 54) (.c (.n 1)), [], [], 0⟩, 
  ⟨(some 8), none, .mv (.t 55), [], [], 0⟩] false (8 :: 5 :: 7 :: 4 :: 3 :: 2 :: [])))))))
 (.seq (.block 4 (.loop (.seq (.seq (.region 14 [
  ⟨(some 64), none, .mv (.t 5), [], [], 0⟩, 
  ⟨(some 65), none, .lenS (.t 64), [], [], 0⟩, 
  ⟨(some 66), none, .bin .geq (.t 65) (.c (.n 128)), [], [], 0⟩] false [66, 5, 4, 3, 2])
 (.cond (.t 66)
 (.skip)
 (.exit 4)))
 (.seq (.block 5 (.seq (.region 16 [
  ⟨(some 9), none, .alloc (.b64 (List.replicate 80 0)), [], [], 0⟩] false [9, 5, 4, 3, 2])
 (.seq (.seq (.region 17 [
  ⟨(some 10), none, .mv (.c (.n 0)), [], [], 0⟩] false (10 :: 9 :: 5 :: 4 :: 3 :: 2 :: []))
 (.block 6 (.loop (.seq (.seq (.region 18 [
  ⟨(some 69), none, .mv (.t 10), [], [], 0⟩, 
  ⟨(some 70), none, .bin .lss (.t 69) (.c (.n 128)), [], [], 0⟩] false (70 :: 10 :: 9 :: 5 :: 4 :: 3 :: 2 :: []))
 (.cond (.t 70)
 (.skip)
 (.exit 6)))
 (.seq (.block 7 (.region 20 (
  ⟨(some 73), none, .mv (.t 10), [], [], 0⟩ :: 
  ⟨(some 74), none, .bin .quo (.t 73) (.c (.n 8)), [0], [], 1⟩ :: 
  ⟨(some 75), none, .mv (.t 10), [], [], 0⟩ :: 
  ⟨(some 76), none, .bin .quo (.t 75) (.c (.n 8)), [2], [], 4⟩ :: 
  ⟨(some 77), none, .idxA 80 1 (.t 9) (.t 76), [3], [], 12⟩ :: 
  ⟨(some 78), none, .load none (.t 77), [4], [], 28⟩ :: 
  ⟨(some 79), none, .bin .shl (.t 78) (.c (.u64 8)), [5], [], 60⟩ :: 
  ⟨(some 80), none, .mv (.t 5), [], [], 0⟩ :: 
  ⟨(some 81), none, .mv (.t 10), [], [], 0⟩ :: 
  ⟨(some 82), none, .idxS 1 (.t 80) (.t 81), [7, 8], [], 384⟩ :: 
  ⟨(some 83), none, .load none (.t 82), [9], [], 896⟩ :: 
  ⟨(some 84), none, .conv .u64 (.t 83), [10], [], 1920⟩ :: 
  ⟨(some 85), none, .bin .or (.t 79) (.t 84), [6, 11], [], 4092⟩ :: 
  ⟨(some 86), none, .idxA 80 1 (.t 9) (.t 74), (1 :: 0 :: 1 :: 2 :: 3 :: 4 :: 5 :: 6 :: 7 :: 8 :: 9 :: 10 :: 11 :: 12 :: []), [], 8191⟩ :: 
  ⟨none, none, .store none (.t 86) (.t 85), (13 :: 12 :: 0 :: 1 :: 2 :: 3 :: 4 :: 5 :: 6 :: 7 :: 8 :: 9 :: 10 :: 11 :: 12 :: []), [], 16383⟩ :: []) true (10 :: 9 :: 5 :: 4 :: 3 :: 2 :: [])))
 (.region 19 [
  ⟨(some 71), none, .mv (.t 10), [], [], 0⟩, 
  ⟨(some 72), none, .bin .add (.t 71) (.c (.n 1)), [], [], 0⟩, 
  ⟨(some 10), none, .mv (.t 72), [], [], 0⟩] false (10 :: 9 :: 5 :: 4 :: 3 :: 2 :: [])))))))
 (.seq (.seq (.region 21 [
  ⟨(some 11), none, .mv (.c (.n 16)), [], [], 0⟩] false (11 :: 9 :: 4 :: 3 :: 5 :: 2 :: []))
 (.block 8 (.loop (.seq (.seq (.region 22 [
  ⟨(some 87), none, .mv (.t 11), [], [], 0⟩, 
  ⟨(some 88), none, .bin .lss (.t 87) (.c (.n 80)), [], [], 0⟩] false (88 :: 11 :: 9 :: 4 :: 3 :: 5 :: 2 :: []))
 (.cond (.t 88)
 (.skip)
 (.exit 8)))
 (.seq (.block 9 (.seq (.region 24 (
  ⟨(some 91), none, .mv (.t 11), [], [], 0⟩ :: 
  ⟨(some 92), none, .bin .sub (.t 91) (.c (.n 15)), [0], [], 1⟩ :: 
  ⟨(some 93), none, .idxA 80 1 (.t 9) (.t 92), [1], [], 3⟩ :: 
  ⟨(some 94), none, .load none (.t 93), [2], [], 7⟩ :: 
  ⟨(some 95), none, .mv (.t 11), [], [], 0⟩ :: 
  ⟨(some 96), none, .bin .sub (.t 95) (.c (.n 2)), [4], [], 16⟩ :: 
  ⟨(some 97), none, .idxA 80 1 (.t 9) (.t 96), [5], [], 48⟩ :: 
  ⟨(some 98), none, .load none (.t 97), [6], [], 112⟩ :: 
  ⟨(some 12), none, .mv (.t 94), [3, 0, 1, 2, 3], [], 15⟩ :: 
  ⟨(some 13), none, .mv (.t 98), (7 :: 8 :: 0 :: 1 :: 2 :: 3 :: 4 :: 5 :: 6 :: 7 :: 8 :: []), [], 511⟩ :: []) true (11 :: 9 :: 12 :: 13 :: 4 :: 3 :: 5 :: 2 :: []))
 (.region 25 (
  ⟨(some 99), none, .mv (.t 11), [], [], 0⟩ :: 
  ⟨(some 100), none, .mv (.t 11), [], [], 0⟩ :: 
  ⟨(some 101), none, .bin .sub (.t 100) (.c (.n 16)), [1], [], 2⟩ :: 
  ⟨(some 102), none, .idxA 80 1 (.t 9) (.t 101), [2], [], 6⟩ :: 
  ⟨(some 103), none, .load none (.t 102), [3], [], 14⟩ :: 
  ⟨(some 104), none, .mv (.t 12), [], [], 0⟩ :: 
  ⟨(some 105), none, .call false 28 [((.t 104), none), ((.c (.n 1)), none)], [5], [4], 32⟩ :: 
  ⟨(some 106), none, .mv (.t 12), [], [], 0⟩ :: 
  ⟨(some 107), none, .call false 28 [((.t 106), none), ((.c (.n 8)), none)], [7, 6], [4], 224⟩ :: 
  ⟨(some 108), none, .bin .xor (.t 105) (.t 107), [6, 8], [], 480⟩ :: 
  ⟨(some 109), none, .mv (.t 12), [], [], 0⟩ :: 
  ⟨(some 110), none, .bin .shr (.t 109) (.c (.u64 7)), [10], [], 1024⟩ :: 
  ⟨(some 111), none, .bin .xor (.t 108) (.t 110), [9, 11], [], 4064⟩ :: 
  ⟨(some 112), none, .bin .add (.t 103) (.t 111), [4, 12], [], 8190⟩ :: 
  ⟨(some 113), none, .mv (.t 11), [], [], 0⟩ :: 
  ⟨(some 114), none, .bin .sub (.t 113) (.c (.n 7)), [14], [], 16384⟩ :: 
  ⟨(some 115), none, .idxA 80 1 (.t 9) (.t 114), [15], [], 49152⟩ :: 
  ⟨(some 116), none, .load none (.t 115), [16], [6, 8], 114688⟩ :: 
  ⟨(some 117), none, .bin .add (.t 112) (.t 116), [13, 17], [], 262142⟩ :: 
  ⟨(some 118), none, .mv (.t 13), [], [], 0⟩ :: 
  ⟨(some 119), none, .call false 28 [((.t 118), none), ((.c (.n 19)), none)], [19, 8], [4, 17], 524768⟩ :: 
  ⟨(some 120), none, .mv (.t 13), [], [], 0⟩ :: 
  ⟨(some 121), none, .call false 28 [((.t 120), none), ((.c (.n 61)), none)], [21, 20], [4, 17], 3670496⟩ :: 
  ⟨(some 122), none, .bin .xor (.t 119) (.t 121), [20, 22], [], 7864800⟩ :: 
  ⟨(some 123), none, .mv (.t 13), [], [], 0⟩ :: 
  ⟨(some 124), none, .bin .shr (.t 123) (.c (.u64 6)), [24], [], 16777216⟩ :: 
  ⟨(some 125), none, .bin .xor (.t 122) (.t 124), [23, 25], [], 66585056⟩ :: 
  ⟨(some 126), none, .bin .add (.t 117) (.t 125), [18, 26], [], 134217726⟩ :: 
  ⟨(some 127), none, .idxA 80 1 (.t 9) (.t 99), (0 :: 0 :: 1 :: 2 :: 3 :: 4 :: 5 :: 6 :: 7 :: 8 :: 9 :: 10 :: 11 :: 12 :: 13 :: 14 :: 15 :: 16 :: 17 :: 18 :: 19 :: 20 :: 21 :: 22 :: 23 :: 24 :: 25 :: 26 :: 27 :: []), [], 268435455⟩ :: 
  ⟨none, none, .store none (.t 127) (.t 126), (28 :: 27 :: 22 :: 0 :: 1 :: 2 :: 3 :: 4 :: 5 :: 6 :: 7 :: 8 :: 9 :: 10 :: 11 :: 12 :: 13 :: 14 :: 15 :: 16 :: 17 :: 18 :: 19 :: 20 :: 21 :: 22 :: 23 :: 24 :: 25 :: 26 :: 27 :: []), [], 536870911⟩ :: []) true (11 :: 9 :: 4 :: 3 :: 5 :: 2 :: []))))
 (.region 23 [
  ⟨(some 89), none, .mv (.t 11), [], [], 0⟩, 
  ⟨(some 90), none, .bin .add (.t 89) (.c (.n 1)), [], [], 0⟩, 
  ⟨(some 11), none, .mv (.t 90), [], [], 0⟩] false (11 :: 9 :: 4 :: 3 :: 5 :: 2 :: [])))))))
 (.seq (.region 26 [
  ⟨(some 128), none, .load (some 8) (.t 4), [], [], 0⟩, 
  ⟨(some 14), none, .alloc (.b64 (List.replicate 8 0)), [], [], 0⟩, 
  ⟨none, none, .store (some 8) (.t 14) (.t 128), [], [], 0⟩] false (14 :: 3 :: 9 :: 4 :: 5 :: 2 :: []))
 (.seq (.seq (.region 27 [
  ⟨(some 15), none, .mv (.c (.n 0)), [], [], 0⟩] false (15 :: 14 :: 3 :: 9 :: 4 :: 5 :: 2 :: []))
 (.block 10 (.loop (.seq (.seq (.region 28 [
  ⟨(some 129), none, .mv (.t 15), [], [], 0⟩, 
  ⟨(some 130), none, .bin .lss (.t 129) (.c (.n 80)), [], [], 0⟩] false (130 :: 14 :: 3 :: 15 :: 9 :: 4 :: 5 :: 2 :: []))
 (.cond (.t 130)
 (.skip)
 (.exit 10)))
 (.seq (.block 11 (.seq (.region 30 (
  ⟨(some 133), none, .idxA 8 1 (.t 14) (.c (.n 0)), [], [], 0⟩ :: 
  ⟨(some 134), none, .load none (.t 133), [0], [], 1⟩ :: 
  ⟨(some 135), none, .idxA 8 1 (.t 14) (.c (.n 4)), [], [], 0⟩ :: 
  ⟨(some 136), none, .load none (.t 135), [2], [], 4⟩ :: 
  ⟨(some 16), none, .mv (.t 134), [1, 0, 1], [], 3⟩ :: 
  ⟨(some 17), none, .mv (.t 136), (3 :: 4 :: 0 :: 1 :: 2 :: 3 :: 4 :: []), [], 31⟩ :: []) true (14 :: 17 :: 3 :: 15 :: 9 :: 16 :: 4 :: 5 :: 2 :: []))
 (.seq (.region 31 (
  ⟨(some 137), none, .idxA 8 1 (.t 14) (.c (.n 7)), [], [], 0⟩ :: 
  ⟨(some 138), none, .load none (.t 137), [0], [], 1⟩ :: 
  ⟨(some 139), none, .mv (.t 17), [], [], 0⟩ :: 
  ⟨(some 140), none, .call false 28 [((.t 139), none), ((.c (.n 14)), none)], [2], [1], 4⟩ :: 
  ⟨(some 141), none, .mv (.t 17), [], [], 0⟩ :: 
  ⟨(some 142), none, .call false 28 [((.t 141), none), ((.c (.n 18)), none)], [4, 3], [1], 28⟩ :: 
  ⟨(some 143), none, .bin .xor (.t 140) (.t 142), [3, 5], [], 60⟩ :: 
  ⟨(some 144), none, .mv (.t 17), [], [], 0⟩ :: 
  ⟨(some 145), none, .call false 28 [((.t 144), none), ((.c (.n 41)), none)], [7, 5], [1], 188⟩ :: 
  ⟨(some 146), none, .bin .xor (.t 143) (.t 145), [6, 8], [], 508⟩ :: 
  ⟨(some 147), none, .bin .add (.t 138) (.t 146), [1, 9], [], 1023⟩ :: 
  ⟨(some 148), none, .mv (.t 17), [], [], 0⟩ :: 
  ⟨(some 149), none, .idxA 8 1 (.t 14) (.c (.n 5)), [], [], 0⟩ :: 
  ⟨(some 150), none, .load none (.t 149), [12], [3, 5, 8], 4096⟩ :: 
  ⟨(some 151), none, .bin .and (.t 148) (.t 150), [11, 13], [], 14336⟩ :: 
  ⟨(some 152), none, .mv (.t 17), [], [], 0⟩ :: 
  ⟨(some 153), none, .un .xor (.t 152), [15], [], 32768⟩ :: 
  ⟨(some 154), none, .idxA 8 1 (.t 14) (.c (.n 6)), [], [], 0⟩ :: 
  ⟨(some 155), none, .load none (.t 154), [17], [3, 5, 8], 131072⟩ :: 
  ⟨(some 156), none, .bin .and (.t 153) (.t 155), [16, 18], [], 491520⟩ :: 
  ⟨(some 157), none, .bin .xor (.t 151) (.t 156), [14, 19], [], 1046528⟩ :: 
  ⟨(some 158), none, .bin .add (.t 147) (.t 157), [10, 20], [], 2097151⟩ :: 
  ⟨(some 159), none, .mv (.t 3), [], [], 0⟩ :: 
  ⟨(some 160), none, .mv (.t 15), [], [], 0⟩ :: 
  ⟨(some 161), none, .idxS 1 (.t 159) (.t 160), [22, 23], [], 12582912⟩ :: 
  ⟨(some 162), none, .load none (.t 161), [24], [3, 5, 8], 29360128⟩ :: 
  ⟨(some 163), none, .bin .add (.t 158) (.t 162), [21, 25], [], 67108863⟩ :: 
  ⟨(some 164), none, .mv (.t 15), [], [], 0⟩ :: 
  ⟨(some 165), none, .idxA 80 1 (.t 9) (.t 164), [27], [], 134217728⟩ :: 
  ⟨(some 166), none, .load none (.t 165), [28], [3, 5, 8], 402653184⟩ :: 
  ⟨(some 167), none, .bin .add (.t 163) (.t 166), [26, 29], [], 1073741823⟩ :: 
  ⟨(some 18), none, .mv (.t 167), (30 :: 8 :: 0 :: 1 :: 2 :: 3 :: 4 :: 5 :: 6 :: 7 :: 8 :: 9 :: 10 :: 11 :: 12 :: 13 :: 14 :: 15 :: 16 :: 17 :: 18 :: 19 :: 20 :: 21 :: 22 :: 23 :: 24 :: 25 :: 26 :: 27 :: 28 :: 29 :: 30 :: []), [], 2147483647⟩ :: []) true (16 :: 14 :: 18 :: 15 :: 3 :: 9 :: 4 :: 5 :: 2 :: []))
 (.seq (.region 32 (
  ⟨(some 168), none, .mv (.t 16), [], [], 0⟩ :: 
  ⟨(some 169), none, .call false 28 [((.t 168), none), ((.c (.n 28)), none)], [0], [], 1⟩ :: 
  ⟨(some 170), none, .mv (.t 16), [], [], 0⟩ :: 
  ⟨(some 171), none, .call false 28 [((.t 170), none), ((.c (.n 34)), none)], [2, 1], [], 7⟩ :: 
  ⟨(some 172), none, .bin .xor (.t 169) (.t 171), [1, 3], [], 15⟩ :: 
  ⟨(some 173), none, .mv (.t 16), [], [], 0⟩ :: 
  ⟨(some 174), none, .call false 28 [((.t 173), none), ((.c (.n 39)), none)], [5, 3], [], 47⟩ :: 
  ⟨(some 175), none, .bin .xor (.t 172) (.t 174), [4, 6], [], 127⟩ :: 
  ⟨(some 176), none, .mv (.t 16), [], [], 0⟩ :: 
  ⟨(some 177), none, .idxA 8 1 (.t 14) (.c (.n 1)), [], [], 0⟩ :: 
  ⟨(some 178), none, .load none (.t 177), [9], [1, 3, 6], 512⟩ :: 
  ⟨(some 179), none, .bin .and (.t 176) (.t 178), [8, 10], [], 1792⟩ :: 
  ⟨(some 180), none, .mv (.t 16), [], [], 0⟩ :: 
  ⟨(some 181), none, .idxA 8 1 (.t 14) (.c (.n 2)), [], [], 0⟩ :: 
  ⟨(some 182), none, .load none (.t 181), [13], [1, 3, 6], 8192⟩ :: 
  ⟨(some 183), none, .bin .and (.t 180) (.t 182), [12, 14], [], 28672⟩ :: 
  ⟨(some 184), none, .bin .xor (.t 179) (.t 183), [11, 15], [], 65280⟩ :: 
  ⟨(some 185), none, .idxA 8 1 (.t 14) (.c (.n 1)), [], [], 0⟩ :: 
  ⟨(some 186), none, .load none (.t 185), [17], [1, 3, 6], 131072⟩ :: 
  ⟨(some 187), none, .idxA 8 1 (.t 14) (.c (.n 2)), [], [], 0⟩ :: 
  ⟨(some 188), none, .load none (.t 187), [19], [1, 3, 6], 524288⟩ :: 
  ⟨(some 189), none, .bin .and (.t 186) (.t 188), [18, 20], [], 1966080⟩ :: 
  ⟨(some 190), none, .bin .xor (.t 184) (.t 189), [16, 21], [], 4194048⟩ :: 
  ⟨(some 191), none, .bin .add (.t 175) (.t 190), [7, 22], [], 8388607⟩ :: 
  ⟨(some 19), none, .mv (.t 191), (23 :: 6 :: 0 :: 1 :: 2 :: 3 :: 4 :: 5 :: 6 :: 7 :: 8 :: 9 :: 10 :: 11 :: 12 :: 13 :: 14 :: 15 :: 16 :: 17 :: 18 :: 19 :: 20 :: 21 :: 22 :: 23 :: []), [], 16777215⟩ :: []) true (18 :: 19 :: 14 :: 15 :: 3 :: 9 :: 4 :: 5 :: 2 :: []))
 (.region 33 (
  ⟨(some 192), none, .mv (.t 18), [], [], 0⟩ :: 
  ⟨(some 193), none, .mv (.t 19), [], [], 0⟩ :: 
  ⟨(some 194), none, .bin .add (.t 192) (.t 193), [], [], 0⟩ :: 
  ⟨(some 195), none, .idxA 8 1 (.t 14) (.c (.n 0)), [], [], 0⟩ :: 
  ⟨(some 196), none, .load none (.t 195), [], [], 0⟩ :: 
  ⟨(some 197), none, .idxA 8 1 (.t 14) (.c (.n 1)), [], [], 0⟩ :: 
  ⟨(some 198), none, .load none (.t 197), [], [], 0⟩ :: 
  ⟨(some 199), none, .idxA 8 1 (.t 14) (.c (.n 2)), [], [], 0⟩ :: 
  ⟨(some 200), none, .load none (.t 199), [], [], 0⟩ :: 
  ⟨(some 201), none, .idxA 8 1 (.t 14) (.c (.n 3)), [], [], 0⟩ :: 
  ⟨(some 202), none, .load none (.t 201), [], [], 0⟩ :: 
  ⟨(some 203), none, .mv (.t 18), [], [], 0⟩ :: 
  ⟨(some 204), none, .bin .add (.t 202) (.t 203), [], [], 0⟩ :: 
  ⟨(some 205), none, .idxA 8 1 (.t 14) (.c (.n 4)), [], [], 0⟩ :: 
  ⟨(some 206), none, .load none (.t 205), [], [], 0⟩ :: 
  ⟨(some 207), none, .idxA 8 1 (.t 14) (.c (.n 5)), [], [], 0⟩ :: 
  ⟨(some 208), none, .load none (.t 207), [], [], 0⟩ :: 
  ⟨(some 209), none, .idxA 8 1 (.t 14) (.c (.n 6)), [], [], 0⟩ :: 
  ⟨(some 210), none, .load none (.t 209), [], [], 0⟩ :: 
  ⟨(some 211), none, .bld .k64 ((.t 194) :: (.t 196) :: (.t 198) :: (.t 200) :: (.t 204) :: (.t 206) :: (.t 208) :: (.t 210) :: []), [], [], 0⟩ :: 
  ⟨none, none, .store (some 8) (.t 14) (.t 211), [], [], 0⟩ :: []) false (15 :: 14 :: 3 :: 9 :: 4 :: 5 :: 2 :: []))))))
 (.region 29 [
  ⟨(some 131), none, .mv (.t 15), [], [], 0⟩, 
  ⟨(some 132), none, .bin .add (.t 131) (.c (.n 1)), [], [], 0⟩, 
  ⟨(some 15), none, .mv (.t 132), [], [], 0⟩] false (15 :: 14 :: 3 :: 9 :: 4 :: 5 :: 2 :: [])))))))
 (.seq (.region 34 [
  ⟨(some 20), none, .mv (.c (.n 0)), [], [], 0⟩] false (20 :: 4 :: 14 :: 5 :: 3 :: 2 :: []))
 (.block 12 (.loop (.seq (.seq (.region 35 [
  ⟨(some 212), none, .mv (.t 20), [], [], 0⟩, 
  ⟨(some 213), none, .bin .lss (.t 212) (.c (.n 8)), [], [], 0⟩] false (213 :: 20 :: 4 :: 14 :: 5 :: 3 :: 2 :: []))
 (.cond (.t 213)
 (.skip)
 (.exit 12)))
 (.seq (.block 13 (.region 37 (
  ⟨(some 216), none, .mv (.t 20), [], [], 0⟩ :: 
  ⟨(some 217), none, .idxA 8 1 (.t 4) (.t 216), [0], [], 1⟩ :: 
  ⟨(some 218), none, .load none (.t 217), [1], [], 3⟩ :: 
  ⟨(some 219), none, .mv (.t 20), [], [], 0⟩ :: 
  ⟨(some 220), none, .idxA 8 1 (.t 14) (.t 219), [3], [], 8⟩ :: 
  ⟨(some 221), none, .load none (.t 220), [4], [], 24⟩ :: 
  ⟨(some 222), none, .bin .add (.t 218) (.t 221), [2, 5], [], 63⟩ :: 
  ⟨(some 223), none, .idxA 8 1 (.t 4) (.t 216), (0 :: 0 :: 1 :: 2 :: 3 :: 4 :: 5 :: 6 :: []), [], 127⟩ :: 
  ⟨none, none, .store none (.t 223) (.t 222), (7 :: 6 :: 0 :: 1 :: 2 :: 3 :: 4 :: 5 :: 6 :: []), [], 255⟩ :: []) true (20 :: 4 :: 14 :: 5 :: 3 :: 2 :: [])))
 (.region 36 [
  ⟨(some 214), none, .mv (.t 20), [], [], 0⟩, 
  ⟨(some 215), none, .bin .add (.t 214) (.c (.n 1)), [], [], 0⟩, 
  ⟨(some 20), none, .mv (.t 215), [], [], 0⟩] false (20 :: 4 :: 14 :: 5 :: 3 :: 2 :: [])))))))))))))
 (.region 15 [
  ⟨(some 67), none, .mv (.t 5), [], [], 0⟩, 
  ⟨(some 68), none, .slcS 1 (.t 67) (some (.c (.n 128))) none, [], [], 0⟩, 
  ⟨(some 5), none, .mv (.t 68), [], [], 0⟩] false [5, 4, 3, 2])))))
 (.seq (.region 38 [
  ⟨(some 21), none, .alloc (.b8 (List.replicate 64 0)), [], [], 0⟩] false [4, 21, 2])
 (.seq (.seq (.region 39 [
  ⟨(some 22), none, .mv (.c (.n 0)), [], [], 0⟩] false [22, 4, 21, 2])
 (.block 14 (.loop (.seq (.seq (.region 40 [
  ⟨(some 224), none, .mv (.t 22), [], [], 0⟩, 
  ⟨(some 225), none, .bin .lss (.t 224) (.c (.n 64)), [], [], 0⟩] false [225, 22, 4, 21, 2])
 (.cond (.t 225)
 (.skip)
 (.exit 14)))
 (.seq (.block 15 (.region 42 (
  ⟨(some 228), none, .mv (.t 22), [], [], 0⟩ :: 
  ⟨(some 229), none, .mv (.t 22), [], [], 0⟩ :: 
  ⟨(some 230), none, .bin .quo (.t 229) (.c (.n 8)), [], [], 0⟩ :: 
  ⟨(some 231), none, .idxA 8 1 (.t 4) (.t 230), [], [], 0⟩ :: 
  ⟨(some 232), none, .load none (.t 231), [], [], 0⟩ :: 
  ⟨(some 233), none, .mv (.t 22), [], [], 0⟩ :: 
  ⟨(some 234), none, .bin .rem (.t 233) (.c (.n 8)), [], [], 0⟩ :: 
  ⟨(some 235), none, .bin .mul (.c (.n 8)) (.t 234), [], [], 0⟩ :: 
  ⟨(some 236), none, .bin .sub (.c (.n 56)) (.t 235), [], [], 0⟩ :: 
  ⟨(some 237), none, .bin .shr (.t 232) (.t 236), [], [], 0⟩ :: 
  ⟨(some 238), none, .conv .u8 (.t 237), [], [], 0⟩ :: 
  ⟨(some 239), none, .idxA 64 1 (.t 21) (.t 228), [], [], 0⟩ :: 
  ⟨none, none, .store none (.t 239) (.t 238), [], [], 0⟩ :: []) false [22, 4, 21, 2]))
 (.region 41 [
  ⟨(some 226), none, .mv (.t 22), [], [], 0⟩, 
  ⟨(some 227), none, .bin .add (.t 226) (.c (.n 1)), [], [], 0⟩, 
  ⟨(some 22), none, .mv (.t 227), [], [], 0⟩] false [22, 4, 21, 2]))))))
 (.seq (.region 43 [
  ⟨(some 240), none, .load (some 64) (.t 21), [], [], 0⟩, 
  ⟨none, none, .store (some 64) (.t 2) (.t 240), [], [], 0⟩] false [2])
 (.ret))))))
def mc19 : MC := .seq (.region 0 [
  ⟨(some 2), none, .alloc (.b8 (List.replicate 64 0)), [], [], 0⟩] false [0, 43, 44, 2])
 (.seq (.region 1 [
  ⟨(some 23), none, .call false 23 [], [], [], 0⟩, 
  ⟨(some 3), none, .mv (.t 23), [], [], 0⟩] false [0, 43, 44, 3, 2])
 (.seq (.region 2 [
  ⟨(some 24), none, .call false 24 [], [], [], 0⟩, 
  ⟨(some 4), none, .alloc (.b64 (List.replicate 8 0)), [], [], 0⟩, 
  ⟨none, none, .store (some 8) (.t 4) (.t 24), [], [], 0⟩] false (0 :: 43 :: 44 :: 4 :: 3 :: 2 :: []))
 (.seq (.region 3 [
  ⟨(some 25), none, .mv (.t 0), [], [], 0⟩, 
  ⟨(some 26), none, .app .k8 [(.u8 0)] 1 (.c .nil) (.t 25), [], [], 0⟩, 
  ⟨(some 27), none, .bsl .k8 [(.c (.u8 128))], [], [], 0⟩, 
  ⟨(some 28), none, .app .k8 [(.u8 0)] 1 (.t 26) (.t 27), [], [], 0⟩, 
  ⟨(some 5), none, .mv (.t 28), [], [], 0⟩] false (5 :: 0 :: 43 :: 44 :: 4 :: 3 :: 2 :: []))
 (.seq (.block 0 (.loop (.seq (.seq (.region 4 [
  ⟨(some 29), none, .mv (.t 5), [], [], 0⟩, 
  ⟨(some 30), none, .lenS (.t 29), [], [], 0⟩, 
  ⟨(some 31), none, .bin .rem (.t 30) (.c (.n 128)), [], [], 0⟩, 
  ⟨(some 32), none, .bin .neq (.t 31) (.c (.n 120)), [], [], 0⟩] false (32 :: 5 :: 0 :: 43 :: 44 :: 4 :: 3 :: 2 :: []))
 (.cond (.t 32)
 (.skip)
 (.exit 0)))
 (.block 1 (.region 5 [
  ⟨(some 33), none, .mv (.t 5), [], [], 0⟩, 
  ⟨(some 34), none, .bsl .k8 [(.c (.u8 0))], [], [], 0⟩, 
  ⟨(some 35), none, .app .k8 [(.u8 0)] 1 (.t 33) (.t 34), [], [], 0⟩, 
  ⟨(some 5), none, .mv (.t 35), [], [], 0⟩] false (5 :: 0 :: 43 :: 44 :: 4 :: 3 :: 2 :: []))))))
 (.seq (.seq (.region 6 [
  ⟨(some 36), none, .mv (.t 0), [], [], 0⟩, 
  ⟨(some 37), none, .lenS (.t 36), [], [], 0⟩, 
  ⟨(some 38), none, .bin .add (.t 37) (.c (.n 1)), [], [], 0⟩, 
  ⟨(some 39), none, .bin .rem (.t 38) (.c (.n 128)), [], [], 0⟩, 
  ⟨(some 6), none, .mv (.t 39), [], [], 0⟩] false (6 :: 43 :: 44 :: 5 :: 0 :: 4 :: 3 :: 2 :: []))
 (.seq (.region 7 (
  ⟨(some 40), none, .mv (.t 6), [], [], 0⟩ :: 
  ⟨(some 41), none, .bin .gtr (.t 40) (.c (.n 112)), [], [], 0⟩ :: 
  ⟨(some 42), none, .mv (.t 41), [], [], 0⟩ :: 
  ⟨(some 43), (some (42, true)), .mv (.t 6), [], [], 0⟩ :: 
  ⟨(some 44), (some (42, true)), .bin .leq (.t 43) (.c (.n 120)), [], [], 0⟩ :: 
  ⟨(some 45), none, .pick (.t 42) (.t 44) (.c (.bool false)), [], [], 0⟩ :: []) false (45 :: 5 :: 0 :: 4 :: 3 :: 2 :: []))
 (.cond (.t 45)
 (.region 8 [
  ⟨(some 46), none, .mv (.t 5), [], [], 0⟩, 
  ⟨(some 47), none, .appz .k8 [(.u8 0)] 1 (.t 46) (.c (.n 128)), [], [], 0⟩, 
  ⟨(some 5), none, .mv (.t 47), [], [], 0⟩] false [0, 5, 4, 3, 2])
 (.skip))))
 (.cut mc19_9))))))
def rs19 : List (Nat × Option (Option Nat)) := [(2, (some (some 64)))]

/-- towpath/sha2.Sum256 -/
def mc20 : MC := .seq (.region 0 [
  ⟨(some 2), none, .alloc (.b8 (List.replicate 32 0)), [], [], 0⟩] false [0, 2])
 (.seq (.region 1 (
  ⟨(some 18), none, .call false 29 [], [], [], 0⟩ :: 
  ⟨(some 19), none, .call false 30 [], [], [], 0⟩ :: 
  ⟨(some 3), none, .alloc (.b32 (List.replicate 8 0)), [], [], 0⟩ :: 
  ⟨(some 4), none, .alloc (.b32 (List.replicate 64 0)), [], [], 0⟩ :: 
  ⟨none, none, .store (some 8) (.t 3) (.t 18), [], [], 0⟩ :: 
  ⟨none, none, .store (some 64) (.t 4) (.t 19), [], [], 0⟩ :: []) false [0, 3, 4, 2])
 (.seq (.seq (.region 2 [
  ⟨(some 20), none, .mv (.t 0), [], [], 0⟩, 
  ⟨(some 21), none, .call false 31 [((.t 20), (some .kb)), ((.c (.n 64)), none)], [], [], 0⟩, 
  ⟨(some 5), none, .mv (.t 21), [], [], 0⟩] false [5, 3, 4, 2])
 (.block 0 (.loop (.seq (.seq (.region 3 [
  ⟨(some 22), none, .mv (.t 5), [], [], 0⟩, 
  ⟨(some 23), none, .lenS (.t 22), [], [], 0⟩, 
  ⟨(some 24), none, .bin .gtr (.t 23) (.c (.n 0)), [], [], 0⟩] false [24, 5, 3, 4, 2])
 (.cond (.t 24)
 (.skip)
 (.exit 0)))
 (.seq (.block 1 (.seq (.region 5 [
  ⟨(some 27), none, .mv (.t 5), [], [], 0⟩, 
  ⟨(some 28), none, .call false 32 [((.t 27), (some .k8))], [], [], 0⟩, 
  ⟨(some 6), none, .alloc (.b32 (List.replicate 64 0)), [], [], 0⟩, 
  ⟨none, none, .store (some 64) (.t 6) (.t 28), [], [], 0⟩] false [3, 4, 6, 5, 2])
 (.seq (.region 6 [
  ⟨(some 29), none, .load (some 8) (.t 3), [], [], 0⟩, 
  ⟨(some 7), none, .alloc (.b32 (List.replicate 8 0)), [], [], 0⟩, 
  ⟨none, none, .store (some 8) (.t 7) (.t 29), [], [], 0⟩] false (7 :: 4 :: 6 :: 3 :: 5 :: 2 :: []))
 (.seq (.seq (.region 7 [
  ⟨(some 30), none, .mv (.c (.n 0)), [], [], 0⟩] false (30 :: 7 :: 4 :: 6 :: 3 :: 5 :: 2 :: []))
 (.block 2 (.loop (.seq (.region 8 [
  ⟨(some 31), none, .bin .lss (.t 30) (.c (.n 64)), [], [], 0⟩] false (31 :: 30 :: 7 :: 4 :: 6 :: 3 :: 5 :: 2 :: []))
 (.seq (.cond (.t 31)
 (.skip)
 (.exit 2))
 (.seq (.block 3 (.seq (.region 9 [
  ⟨(some 32), none, .mv (.t 30), [], [], 0⟩, 
  ⟨(some 8), none, .mv (.t 32), [], [], 0⟩] false (7 :: 8 :: 4 :: 6 :: 30 :: 3 :: 5 :: 2 :: []))
 (.seq (.region 10 (
  ⟨(some 33), none, .idxA 8 1 (.t 7) (.c (.n 4)), [], [], 0⟩ :: 
  ⟨(some 34), none, .load none (.t 33), [0], [], 1⟩ :: 
  ⟨(some 35), none, .idxA 8 1 (.t 7) (.c (.n 0)), [], [], 0⟩ :: 
  ⟨(some 36), none, .load none (.t 35), [2], [], 4⟩ :: 
  ⟨(some 9), none, .mv (.t 34), [1, 0, 1], [], 3⟩ :: 
  ⟨(some 10), none, .mv (.t 36), (3 :: 4 :: 0 :: 1 :: 2 :: 3 :: 4 :: []), [], 31⟩ :: []) true (9 :: 7 :: 8 :: 4 :: 6 :: 10 :: 30 :: 3 :: 5 :: 2 :: []))
 (.seq (.region 11 (
  ⟨(some 37), none, .mv (.t 9), [], [], 0⟩ :: 
  ⟨(some 38), none, .call false 33 [((.t 37), none), ((.c (.i (-6))), none)], [], [], 0⟩ :: 
  ⟨(some 39), none, .mv (.t 9), [], [], 0⟩ :: 
  ⟨(some 40), none, .call false 33 [((.t 39), none), ((.c (.i (-11))), none)], [], [], 0⟩ :: 
  ⟨(some 41), none, .bin .xor (.t 38) (.t 40), [], [], 0⟩ :: 
  ⟨(some 42), none, .mv (.t 9), [], [], 0⟩ :: 
  ⟨(some 43), none, .call false 33 [((.t 42), none), ((.c (.i (-25))), none)], [], [], 0⟩ :: 
  ⟨(some 44), none, .bin .xor (.t 41) (.t 43), [], [], 0⟩ :: 
  ⟨(some 11), none, .mv (.t 44), [], [], 0⟩ :: []) false (7 :: 11 :: 9 :: 8 :: 4 :: 6 :: 10 :: 30 :: 3 :: 5 :: 2 :: []))
 (.seq (.region 12 (
  ⟨(some 45), none, .idxA 8 1 (.t 7) (.c (.n 7)), [], [], 0⟩ :: 
  ⟨(some 46), none, .load none (.t 45), [0], [], 1⟩ :: 
  ⟨(some 47), none, .mv (.t 11), [], [], 0⟩ :: 
  ⟨(some 48), none, .bin .add (.t 46) (.t 47), [1, 2], [], 7⟩ :: 
  ⟨(some 49), none, .mv (.t 9), [], [], 0⟩ :: 
  ⟨(some 50), none, .idxA 8 1 (.t 7) (.c (.n 5)), [], [], 0⟩ :: 
  ⟨(some 51), none, .load none (.t 50), [5], [], 32⟩ :: 
  ⟨(some 52), none, .bin .and (.t 49) (.t 51), [4, 6], [], 112⟩ :: 
  ⟨(some 53), none, .mv (.t 9), [], [], 0⟩ :: 
  ⟨(some 54), none, .un .xor (.t 53), [8], [], 256⟩ :: 
  ⟨(some 55), none, .idxA 8 1 (.t 7) (.c (.n 6)), [], [], 0⟩ :: 
  ⟨(some 56), none, .load none (.t 55), [10], [], 1024⟩ :: 
  ⟨(some 57), none, .bin .and (.t 54) (.t 56), [9, 11], [], 3840⟩ :: 
  ⟨(some 58), none, .bin .xor (.t 52) (.t 57), [7, 12], [], 8176⟩ :: 
  ⟨(some 59), none, .bin .add (.t 48) (.t 58), [3, 13], [], 16383⟩ :: 
  ⟨(some 60), none, .mv (.t 8), [], [], 0⟩ :: 
  ⟨(some 61), none, .idxA 64 1 (.t 4) (.t 60), [15], [], 32768⟩ :: 
  ⟨(some 62), none, .load none (.t 61), [16], [], 98304⟩ :: 
  ⟨(some 63), none, .bin .add (.t 59) (.t 62), [14, 17], [], 262143⟩ :: 
  ⟨(some 64), none, .mv (.t 8), [], [], 0⟩ :: 
  ⟨(some 65), none, .idxA 64 1 (.t 6) (.t 64), [19], [], 524288⟩ :: 
  ⟨(some 66), none, .load none (.t 65), [20], [], 1572864⟩ :: 
  ⟨(some 67), none, .bin .add (.t 63) (.t 66), [18, 21], [], 4194303⟩ :: 
  ⟨(some 12), none, .mv (.t 67), (22 :: 0 :: 1 :: 2 :: 3 :: 4 :: 5 :: 6 :: 7 :: 8 :: 9 :: 10 :: 11 :: 12 :: 13 :: 14 :: 15 :: 16 :: 17 :: 18 :: 19 :: 20 :: 21 :: 22 :: []), [], 8388607⟩ :: []) true (10 :: 7 :: 12 :: 30 :: 4 :: 6 :: 3 :: 5 :: 2 :: []))
 (.seq (.region 13 (
  ⟨(some 68), none, .mv (.t 10), [], [], 0⟩ :: 
  ⟨(some 69), none, .call false 33 [((.t 68), none), ((.c (.i (-2))), none)], [], [], 0⟩ :: 
  ⟨(some 70), none, .mv (.t 10), [], [], 0⟩ :: 
  ⟨(some 71), none, .call false 33 [((.t 70), none), ((.c (.i (-13))), none)], [], [], 0⟩ :: 
  ⟨(some 72), none, .bin .xor (.t 69) (.t 71), [], [], 0⟩ :: 
  ⟨(some 73), none, .mv (.t 10), [], [], 0⟩ :: 
  ⟨(some 74), none, .call false 33 [((.t 73), none), ((.c (.i (-22))), none)], [], [], 0⟩ :: 
  ⟨(some 75), none, .bin .xor (.t 72) (.t 74), [], [], 0⟩ :: 
  ⟨(some 13), none, .mv (.t 75), [], [], 0⟩ :: []) false (13 :: 10 :: 7 :: 12 :: 30 :: 4 :: 6 :: 3 :: 5 :: 2 :: []))
 (.seq (.region 14 (
  ⟨(some 76), none, .mv (.t 13), [], [], 0⟩ :: 
  ⟨(some 77), none, .mv (.t 10), [], [], 0⟩ :: 
  ⟨(some 78), none, .idxA 8 1 (.t 7) (.c (.n 1)), [], [], 0⟩ :: 
  ⟨(some 79), none, .load none (.t 78), [], [], 0⟩ :: 
  ⟨(some 80), none, .bin .and (.t 77) (.t 79), [], [], 0⟩ :: 
  ⟨(some 81), none, .mv (.t 10), [], [], 0⟩ :: 
  ⟨(some 82), none, .idxA 8 1 (.t 7) (.c (.n 2)), [], [], 0⟩ :: 
  ⟨(some 83), none, .load none (.t 82), [], [], 0⟩ :: 
  ⟨(some 84), none, .bin .and (.t 81) (.t 83), [], [], 0⟩ :: 
  ⟨(some 85), none, .bin .xor (.t 80) (.t 84), [], [], 0⟩ :: 
  ⟨(some 86), none, .idxA 8 1 (.t 7) (.c (.n 1)), [], [], 0⟩ :: 
  ⟨(some 87), none, .load none (.t 86), [], [], 0⟩ :: 
  ⟨(some 88), none, .idxA 8 1 (.t 7) (.c (.n 2)), [], [], 0⟩ :: 
  ⟨(some 89), none, .load none (.t 88), [], [], 0⟩ :: 
  ⟨(some 90), none, .bin .and (.t 87) (.t 89), [], [], 0⟩ :: 
  ⟨(some 91), none, .bin .xor (.t 85) (.t 90), [], [], 0⟩ :: 
  ⟨(some 92), none, .bin .add (.t 76) (.t 91), [], [], 0⟩ :: 
  ⟨(some 14), none, .mv (.t 92), [], [], 0⟩ :: []) false (12 :: 14 :: 7 :: 30 :: 4 :: 6 :: 3 :: 5 :: 2 :: []))
 (.region 15 (
  ⟨(some 93), none, .mv (.t 12), [], [], 0⟩ :: 
  ⟨(some 94), none, .mv (.t 14), [], [], 0⟩ :: 
  ⟨(some 95), none, .bin .add (.t 93) (.t 94), [], [], 0⟩ :: 
  ⟨(some 96), none, .idxA 8 1 (.t 7) (.c (.n 0)), [], [], 0⟩ :: 
  ⟨(some 97), none, .load none (.t 96), [], [], 0⟩ :: 
  ⟨(some 98), none, .idxA 8 1 (.t 7) (.c (.n 1)), [], [], 0⟩ :: 
  ⟨(some 99), none, .load none (.t 98), [], [], 0⟩ :: 
  ⟨(some 100), none, .idxA 8 1 (.t 7) (.c (.n 2)), [], [], 0⟩ :: 
  ⟨(some 101), none, .load none (.t 100), [], [], 0⟩ :: 
  ⟨(some 102), none, .idxA 8 1 (.t 7) (.c (.n 3)), [], [], 0⟩ :: 
  ⟨(some 103), none, .load none (.t 102), [], [], 0⟩ :: 
  ⟨(some 104), none, .mv (.t 12), [], [], 0⟩ :: 
  ⟨(some 105), none, .bin .add (.t 103) (.t 104), [], [], 0⟩ :: 
  ⟨(some 106), none, .idxA 8 1 (.t 7) (.c (.n 4)), [], [], 0⟩ :: 
  ⟨(some 107), none, .load none (.t 106), [], [], 0⟩ :: 
  ⟨(some 108), none, .idxA 8 1 (.t 7) (.c (.n 5)), [], [], 0⟩ :: 
  ⟨(some 109), none, .load none (.t 108), [], [], 0⟩ :: 
  ⟨(some 110), none, .idxA 8 1 (.t 7) (.c (.n 6)), [], [], 0⟩ :: 
  ⟨(some 111), none, .load none (.t 110), [], [], 0⟩ :: 
  ⟨(some 112), none, .bld .k32 ((.t 95) :: (.t 97) :: (.t 99) :: (.t 101) :: (.t 105) :: (.t 107) :: (.t 109) :: (.t 111) :: []), [], [], 0⟩ :: 
  ⟨none, none, .store (some 8) (.t 7) (.t 112), [], [], 0⟩ :: []) false (30 :: 7 :: 4 :: 6 :: 3 :: 5 :: 2 :: [])))))))))
 (.region 16 [
  ⟨(some 113), none, .bin .add (.t 30) (.c (.n 1)), [], [], 0⟩, 
  ⟨(some 30), none, .mv (.t 113), [], [], 0⟩] false (30 :: 7 :: 4 :: 6 :: 3 :: 5 :: 2 :: []))))))))
 (.seq (.region 17 [
  ⟨(some 114), none, .mv (.c (.n 0)), [], [], 0⟩] false (114 :: 3 :: 7 :: 5 :: 4 :: 2 :: []))
 (.block 4 (.loop (.seq (.region 18 [
  ⟨(some 115), none, .bin .lss (.t 114) (.c (.n 8)), [], [], 0⟩] false (115 :: 114 :: 3 :: 7 :: 5 :: 4 :: 2 :: []))
 (.seq (.cond (.t 115)
 (.skip)
 (.exit 4))
 (.seq (.block 5 (.seq (.region 19 [
  ⟨(some 116), none, .mv (.t 114), [], [], 0⟩, 
  ⟨(some 15), none, .mv (.t 116), [], [], 0⟩] false (15 :: 3 :: 7 :: 114 :: 5 :: 4 :: 2 :: []))
 (.region 20 (
  ⟨(some 117), none, .mv (.t 15), [], [], 0⟩ :: 
  ⟨(some 118), none, .idxA 8 1 (.t 3) (.t 117), [0], [], 1⟩ :: 
  ⟨(some 119), none, .load none (.t 118), [1], [], 3⟩ :: 
  ⟨(some 120), none, .mv (.t 15), [], [], 0⟩ :: 
  ⟨(some 121), none, .idxA 8 1 (.t 7) (.t 120), [3], [], 8⟩ :: 
  ⟨(some 122), none, .load none (.t 121), [4], [], 24⟩ :: 
  ⟨(some 123), none, .bin .add (.t 119) (.t 122), [2, 5], [], 63⟩ :: 
  ⟨(some 124), none, .idxA 8 1 (.t 3) (.t 117), (0 :: 0 :: 1 :: 2 :: 3 :: 4 :: 5 :: 6 :: []), [], 127⟩ :: 
  ⟨none, none, .store none (.t 124) (.t 123), (7 :: 6 :: 0 :: 1 :: 2 :: 3 :: 4 :: 5 :: 6 :: []), [], 255⟩ :: []) true (114 :: 3 :: 7 :: 5 :: 4 :: 2 :: []))))
 (.region 21 [
  ⟨(some 125), none, .bin .add (.t 114) (.c (.n 1)), [], [], 0⟩, 
  ⟨(some 114), none, .mv (.t 125), [], [], 0⟩] false (114 :: 3 :: 7 :: 5 :: 4 :: 2 :: []))))))))))))
 (.region 4 [
  ⟨(some 25), none, .mv (.t 5), [], [], 0⟩, 
  ⟨(some 26), none, .slcS 1 (.t 25) (some (.c (.n 64))) none, [], [], 0⟩, 
  ⟨(some 5), none, .mv (.t 26), [], [], 0⟩] false [5, 3, 4, 2]))))))
 (.seq (.region 22 [
  ⟨(some 16), none, .alloc (.b8 (List.replicate 32 0)), [], [], 0⟩] false [3, 16, 2])
 (.seq (.seq (.region 23 [
  ⟨(some 126), none, .mv (.c (.n 0)), [], [], 0⟩] false [126, 3, 16, 2])
 (.block 6 (.loop (.seq (.region 24 [
  ⟨(some 127), none, .bin .lss (.t 126) (.c (.n 32)), [], [], 0⟩] false [127, 126, 3, 16, 2])
 (.seq (.cond (.t 127)
 (.skip)
 (.exit 6))
 (.seq (.block 7 (.seq (.region 25 [
  ⟨(some 128), none, .mv (.t 126), [], [], 0⟩, 
  ⟨(some 17), none, .mv (.t 128), [], [], 0⟩] false [17, 3, 16, 126, 2])
 (.region 26 (
  ⟨(some 129), none, .mv (.t 17), [], [], 0⟩ :: 
  ⟨(some 130), none, .mv (.t 17), [], [], 0⟩ :: 
  ⟨(some 131), none, .bin .quo (.t 130) (.c (.n 4)), [], [], 0⟩ :: 
  ⟨(some 132), none, .idxA 8 1 (.t 3) (.t 131), [], [], 0⟩ :: 
  ⟨(some 133), none, .load none (.t 132), [], [], 0⟩ :: 
  ⟨(some 134), none, .mv (.t 17), [], [], 0⟩ :: 
  ⟨(some 135), none, .bin .rem (.t 134) (.c (.n 4)), [], [], 0⟩ :: 
  ⟨(some 136), none, .bin .mul (.c (.n 8)) (.t 135), [], [], 0⟩ :: 
  ⟨(some 137), none, .bin .sub (.c (.n 24)) (.t 136), [], [], 0⟩ :: 
  ⟨(some 138), none, .conv .u64 (.t 137), [], [], 0⟩ :: 
  ⟨(some 139), none, .bin .shr (.t 133) (.t 138), [], [], 0⟩ :: 
  ⟨(some 140), none, .conv .u8 (.t 139), [], [], 0⟩ :: 
  ⟨(some 141), none, .idxA 32 1 (.t 16) (.t 129), [], [], 0⟩ :: 
  ⟨none, none, .store none (.t 141) (.t 140), [], [], 0⟩ :: []) false [126, 3, 16, 2])))
 (.region 27 [
  ⟨(some 142), none, .bin .add (.t 126) (.c (.n 1)), [], [], 0⟩, 
  ⟨(some 126), none, .mv (.t 142), [], [], 0⟩] false [126, 3, 16, 2])))))))
 (.seq (.region 28 [
  ⟨(some 143), none, .load (some 32) (.t 16), [], [], 0⟩, 
  ⟨none, none, .store (some 32) (.t 2) (.t 143), [], [], 0⟩] false [2])
 (.ret))))))
def rs20 : List (Nat × Option (Option Nat)) := [(2, (some (some 32)))]

/-- towpath/sha2.Sum512 -/
def mc21 : MC := .seq (.region 0 [
  ⟨(some 2), none, .alloc (.b8 (List.replicate 64 0)), [], [], 0⟩] false [0, 2])
 (.seq (.region 1 (
  ⟨(some 18), none, .call false 34 [], [], [], 0⟩ :: 
  ⟨(some 19), none, .call false 35 [], [], [], 0⟩ :: 
  ⟨(some 3), none, .alloc (.b64 (List.replicate 8 0)), [], [], 0⟩ :: 
  ⟨(some 4), none, .alloc (.b64 (List.replicate 80 0)), [], [], 0⟩ :: 
  ⟨none, none, .store (some 8) (.t 3) (.t 18), [], [], 0⟩ :: 
  ⟨none, none, .store (some 80) (.t 4) (.t 19), [], [], 0⟩ :: []) false [0, 3, 4, 2])
 (.seq (.seq (.region 2 [
  ⟨(some 20), none, .mv (.t 0), [], [], 0⟩, 
  ⟨(some 21), none, .call false 36 [((.t 20), (some .kb))], [], [], 0⟩, 
  ⟨(some 5), none, .mv (.t 21), [], [], 0⟩] false [5, 3, 4, 2])
 (.block 0 (.loop (.seq (.seq (.region 3 [
  ⟨(some 22), none, .mv (.t 5), [], [], 0⟩, 
  ⟨(some 23), none, .lenS (.t 22), [], [], 0⟩, 
  ⟨(some 24), none, .bin .gtr (.t 23) (.c (.n 0)), [], [], 0⟩] false [24, 5, 3, 4, 2])
 (.cond (.t 24)
 (.skip)
 (.exit 0)))
 (.seq (.block 1 (.seq (.region 5 [
  ⟨(some 27), none, .mv (.t 5), [], [], 0⟩, 
  ⟨(some 28), none, .call false 37 [((.t 27), (some .k8))], [], [], 0⟩, 
  ⟨(some 6), none, .alloc (.b64 (List.replicate 80 0)), [], [], 0⟩, 
  ⟨none, none, .store (some 80) (.t 6) (.t 28), [], [], 0⟩] false [3, 4, 6, 5, 2])
 (.seq (.region 6 [
  ⟨(some 29), none, .load (some 8) (.t 3), [], [], 0⟩, 
  ⟨(some 7), none, .alloc (.b64 (List.replicate 8 0)), [], [], 0⟩, 
  ⟨none, none, .store (some 8) (.t 7) (.t 29), [], [], 0⟩] false (7 :: 4 :: 6 :: 3 :: 5 :: 2 :: []))
 (.seq (.seq (.region 7 [
  ⟨(some 30), none, .mv (.c (.n 0)), [], [], 0⟩] false (30 :: 7 :: 4 :: 6 :: 3 :: 5 :: 2 :: []))
 (.block 2 (.loop (.seq (.region 8 [
  ⟨(some 31), none, .bin .lss (.t 30) (.c (.n 80)), [], [], 0⟩] false (31 :: 30 :: 7 :: 4 :: 6 :: 3 :: 5 :: 2 :: []))
 (.seq (.cond (.t 31)
 (.skip)
 (.exit 2))
 (.seq (.block 3 (.seq (.region 9 [
  ⟨(some 32), none, .mv (.t 30), [], [], 0⟩, 
  ⟨(some 8), none, .mv (.t 32), [], [], 0⟩] false (7 :: 8 :: 4 :: 6 :: 30 :: 3 :: 5 :: 2 :: []))
 (.seq (.region 10 (
  ⟨(some 33), none, .idxA 8 1 (.t 7) (.c (.n 4)), [], [], 0⟩ :: 
  ⟨(some 34), none, .load none (.t 33), [0], [], 1⟩ :: 
  ⟨(some 35), none, .idxA 8 1 (.t 7) (.c (.n 0)), [], [], 0⟩ :: 
  ⟨(some 36), none, .load none (.t 35), [2], [], 4⟩ :: 
  ⟨(some 9), none, .mv (.t 34), [1, 0, 1], [], 3⟩ :: 
  ⟨(some 10), none, .mv (.t 36), (3 :: 4 :: 0 :: 1 :: 2 :: 3 :: 4 :: []), [], 31⟩ :: []) true (9 :: 7 :: 8 :: 4 :: 6 :: 10 :: 30 :: 3 :: 5 :: 2 :: []))
 (.seq (.region 11 (
  ⟨(some 37), none, .mv (.t 9), [], [], 0⟩ :: 
  ⟨(some 38), none, .call false 38 [((.t 37), none), ((.c (.i (-14))), none)], [], [], 0⟩ :: 
  ⟨(some 39), none, .mv (.t 9), [], [], 0⟩ :: 
  ⟨(some 40), none, .call false 38 [((.t 39), none), ((.c (.i (-18))), none)], [], [], 0⟩ :: 
  ⟨(some 41), none, .bin .xor (.t 38) (.t 40), [], [], 0⟩ :: 
  ⟨(some 42), none, .mv (.t 9), [], [], 0⟩ :: 
  ⟨(some 43), none, .call false 38 [((.t 42), none), ((.c (.i (-41))), none)], [], [], 0⟩ :: 
  ⟨(some 44), none, .bin .xor (.t 41) (.t 43), [], [], 0⟩ :: 
  ⟨(some 11), none, .mv (.t 44), [], [], 0⟩ :: []) false (7 :: 11 :: 9 :: 8 :: 4 :: 6 :: 10 :: 30 :: 3 :: 5 :: 2 :: []))
 (.seq (.region 12 (
  ⟨(some 45), none, .idxA 8 1 (.t 7) (.c (.n 7)), [], [], 0⟩ :: 
  ⟨(some 46), none, .load none (.t 45), [0], [], 1⟩ :: 
  ⟨(some 47), none, .mv (.t 11), [], [], 0⟩ :: 
  ⟨(some 48), none, .bin .add (.t 46) (.t 47), [1, 2], [], 7⟩ :: 
  ⟨(some 49), none, .mv (.t 9), [], [], 0⟩ :: 
  ⟨(some 50), none, .idxA 8 1 (.t 7) (.c (.n 5)), [], [], 0⟩ :: 
  ⟨(some 51), none, .load none (.t 50), [5], [], 32⟩ :: 
  ⟨(some 52), none, .bin .and (.t 49) (.t 51), [4, 6], [], 112⟩ :: 
  ⟨(some 53), none, .mv (.t 9), [], [], 0⟩ :: 
  ⟨(some 54), none, .un .xor (.t 53), [8], [], 256⟩ :: 
  ⟨(some 55), none, .idxA 8 1 (.t 7) (.c (.n 6)), [], [], 0⟩ :: 
  ⟨(some 56), none, .load none (.t 55), [10], [], 1024⟩ :: 
  ⟨(some 57), none, .bin .and (.t 54) (.t 56), [9, 11], [], 3840⟩ :: 
  ⟨(some 58), none, .bin .xor (.t 52) (.t 57), [7, 12], [], 8176⟩ :: 
  ⟨(some 59), none, .bin .add (.t 48) (.t 58), [3, 13], [], 16383⟩ :: 
  ⟨(some 60), none, .mv (.t 8), [], [], 0⟩ :: 
  ⟨(some 61), none, .idxA 80 1 (.t 4) (.t 60), [15], [], 32768⟩ :: 
  ⟨(some 62), none, .load none (.t 61), [16], [], 98304⟩ :: 
  ⟨(some 63), none, .bin .add (.t 59) (.t 62), [14, 17], [], 262143⟩ :: 
  ⟨(some 64), none, .mv (.t 8), [], [], 0⟩ :: 
  ⟨(some 65), none, .idxA 80 1 (.t 6) (.t 64), [19], [], 524288⟩ :: 
  ⟨(some 66), none, .load none (.t 65), [20], [], 1572864⟩ :: 
  ⟨(some 67), none, .bin .add (.t 63) (.t 66), [18, 21], [], 4194303⟩ :: 
  ⟨(some 12), none, .mv (.t 67), (22 :: 0 :: 1 :: 2 :: 3 :: 4 :: 5 :: 6 :: 7 :: 8 :: 9 :: 10 :: 11 :: 12 :: 13 :: 14 :: 15 :: 16 :: 17 :: 18 :: 19 :: 20 :: 21 :: 22 :: []), [], 8388607⟩ :: []) true (10 :: 7 :: 12 :: 30 :: 4 :: 6 :: 3 :: 5 :: 2 :: []))
 (.seq (.region 13 (
  ⟨(some 68), none, .mv (.t 10), [], [], 0⟩ :: 
  ⟨(some 69), none, .call false 38 [((.t 68), none), ((.c (.i (-28))), none)], [], [], 0⟩ :: 
  ⟨(some 70), none, .mv (.t 10), [], [], 0⟩ :: 
  ⟨(some 71), none, .call false 38 [((.t 70), none), ((.c (.i (-34))), none)], [], [], 0⟩ :: 
  ⟨(some 72), none, .bin .xor (.t 69) (.t 71), [], [], 0⟩ :: 
  ⟨(some 73), none, .mv (.t 10), [], [], 0⟩ :: 
  ⟨(some 74), none, .call false 38 [((.t 73), none), ((.c (.i (-39))), none)], [], [], 0⟩ :: 
  ⟨(some 75), none, .bin .xor (.t 72) (.t 74), [], [], 0⟩ :: 
  ⟨(some 13), none, .mv (.t 75), [], [], 0⟩ :: []) false (13 :: 10 :: 7 :: 12 :: 30 :: 4 :: 6 :: 3 :: 5 :: 2 :: []))
 (.seq (.region 14 (
  ⟨(some 76), none, .mv (.t 13), [], [], 0⟩ :: 
  ⟨(some 77), none, .mv (.t 10), [], [], 0⟩ :: 
  ⟨(some 78), none, .idxA 8 1 (.t 7) (.c (.n 1)), [], [], 0⟩ :: 
  ⟨(some 79), none, .load none (.t 78), [], [], 0⟩ :: 
  ⟨(some 80), none, .bin .and (.t 77) (.t 79), [], [], 0⟩ :: 
  ⟨(some 81), none, .mv (.t 10), [], [], 0⟩ :: 
  ⟨(some 82), none, .idxA 8 1 (.t 7) (.c (.n 2)), [], [], 0⟩ :: 
  ⟨(some 83), none, .load none (.t 82), [], [], 0⟩ :: 
  ⟨(some 84), none, .bin .and (.t 81) (.t 83), [], [], 0⟩ :: 
  ⟨(some 85), none, .bin .xor (.t 80) (.t 84), [], [], 0⟩ :: 
  ⟨(some 86), none, .idxA 8 1 (.t 7) (.c (.n 1)), [], [], 0⟩ :: 
  ⟨(some 87), none, .load none (.t 86), [], [], 0⟩ :: 
  ⟨(some 88), none, .idxA 8 1 (.t 7) (.c (.n 2)), [], [], 0⟩ :: 
  ⟨(some 89), none, .load none (.t 88), [], [], 0⟩ :: 
  ⟨(some 90), none, .bin .and (.t 87) (.t 89), [], [], 0⟩ :: 
  ⟨(some 91), none, .bin .xor (.t 85) (.t 90), [], [], 0⟩ :: 
  ⟨(some 92), none, .bin .add (.t 76) (.t 91), [], [], 0⟩ :: 
  ⟨(some 14), none, .mv (.t 92), [], [], 0⟩ :: []) false (12 :: 14 :: 7 :: 30 :: 4 :: 6 :: 3 :: 5 :: 2 :: []))
 (.region 15 (
  ⟨(some 93), none, .mv (.t 12), [], [], 0⟩ :: 
  ⟨(some 94), none, .mv (.t 14), [], [], 0⟩ :: 
  ⟨(some 95), none, .bin .add (.t 93) (.t 94), [], [], 0⟩ :: 
  ⟨(some 96), none, .idxA 8 1 (.t 7) (.c (.n 0)), [], [], 0⟩ :: 
  ⟨(some 97), none, .load none (.t 96), [], [], 0⟩ :: 
  ⟨(some 98), none, .idxA 8 1 (.t 7) (.c (.n 1)), [], [], 0⟩ :: 
  ⟨(some 99), none, .load none (.t 98), [], [], 0⟩ :: 
  ⟨(some 100), none, .idxA 8 1 (.t 7) (.c (.n 2)), [], [], 0⟩ :: 
  ⟨(some 101), none, .load none (.t 100), [], [], 0⟩ :: 
  ⟨(some 102), none, .idxA 8 1 (.t 7) (.c (.n 3)), [], [], 0⟩ :: 
  ⟨(some 103), none, .load none (.t 102), [], [], 0⟩ :: 
  ⟨(some 104), none, .mv (.t 12), [], [], 0⟩ :: 
  ⟨(some 105), none, .bin .add (.t 103) (.t 104), [], [], 0⟩ :: 
  ⟨(some 106), none, .idxA 8 1 (.t 7) (.c (.n 4)), [], [], 0⟩ :: 
  ⟨(some 107), none, .load none (.t 106), [], [], 0⟩ :: 
  ⟨(some 108), none, .idxA 8 1 (.t 7) (.c (.n 5)), [], [], 0⟩ :: 
  ⟨(some 109), none, .load none (.t 108), [], [], 0⟩ :: 
  ⟨(some 110), none, .idxA 8 1 (.t 7) (.c (.n 6)), [], [], 0⟩ :: 
  ⟨(some 111), none, .load none (.t 110), [], [], 0⟩ :: 
  ⟨(some 112), none, .bld .k64 ((.t 95) :: (.t 97) :: (.t 99) :: (.t 101) :: (.t 105) :: (.t 107) :: (.t 109) :: (.t 111) :: []), [], [], 0⟩ :: 
  ⟨none, none, .store (some 8) (.t 7) (.t 112), [], [], 0⟩ :: []) false (30 :: 7 :: 4 :: 6 :: 3 :: 5 :: 2 :: [])))))))))
 (.region 16 [
  ⟨(some 113), none, .bin .add (.t 30) (.c (.n 1)), [], [], 0⟩, 
  ⟨(some 30), none, .mv (.t 113), [], [], 0⟩] false (30 :: 7 :: 4 :: 6 :: 3 :: 5 :: 2 :: []))))))))
 (.seq (.region 17 [
  ⟨(some 114), none, .mv (.c (.n 0)), [], [], 0⟩] false (114 :: 3 :: 7 :: 5 :: 4 :: 2 :: []))
 (.block 4 (.loop (.seq (.region 18 [
  ⟨(some 115), none, .bin .lss (.t 114) (.c (.n 8)), [], [], 0⟩] false (115 :: 114 :: 3 :: 7 :: 5 :: 4 :: 2 :: []))
 (.seq (.cond (.t 115)
 (.skip)
 (.exit 4))
 (.seq (.block 5 (.seq (.region 19 [
  ⟨(some 116), none, .mv (.t 114), [], [], 0⟩, 
  ⟨(some 15), none, .mv (.t 116), [], [], 0⟩] false (15 :: 3 :: 7 :: 114 :: 5 :: 4 :: 2 :: []))
 (.region 20 (
  ⟨(some 117), none, .mv (.t 15), [], [], 0⟩ :: 
  ⟨(some 118), none, .idxA 8 1 (.t 3) (.t 117), [0], [], 1⟩ :: 
  ⟨(some 119), none, .load none (.t 118), [1], [], 3⟩ :: 
  ⟨(some 120), none, .mv (.t 15), [], [], 0⟩ :: 
  ⟨(some 121), none, .idxA 8 1 (.t 7) (.t 120), [3], [], 8⟩ :: 
  ⟨(some 122), none, .load none (.t 121), [4], [], 24⟩ :: 
  ⟨(some 123), none, .bin .add (.t 119) (.t 122), [2, 5], [], 63⟩ :: 
  ⟨(some 124), none, .idxA 8 1 (.t 3) (.t 117), (0 :: 0 :: 1 :: 2 :: 3 :: 4 :: 5 :: 6 :: []), [], 127⟩ :: 
  ⟨none, none, .store none (.t 124) (.t 123), (7 :: 6 :: 0 :: 1 :: 2 :: 3 :: 4 :: 5 :: 6 :: []), [], 255⟩ :: []) true (114 :: 3 :: 7 :: 5 :: 4 :: 2 :: []))))
 (.region 21 [
  ⟨(some 125), none, .bin .add (.t 114) (.c (.n 1)), [], [], 0⟩, 
  ⟨(some 114), none, .mv (.t 125), [], [], 0⟩] false (114 :: 3 :: 7 :: 5 :: 4 :: 2 :: []))))))))))))
 (.region 4 [
  ⟨(some 25), none, .mv (.t 5), [], [], 0⟩, 
  ⟨(some 26), none, .slcS 1 (.t 25) (some (.c (.n 128))) none, [], [], 0⟩, 
  ⟨(some 5), none, .mv (.t 26), [], [], 0⟩] false [5, 3, 4, 2]))))))
 (.seq (.region 22 [
  ⟨(some 16), none, .alloc (.b8 (List.replicate 64 0)), [], [], 0⟩] false [3, 16, 2])
 (.seq (.seq (.region 23 [
  ⟨(some 126), none, .mv (.c (.n 0)), [], [], 0⟩] false [126, 3, 16, 2])
 (.block 6 (.loop (.seq (.region 24 [
  ⟨(some 127), none, .bin .lss (.t 126) (.c (.n 64)), [], [], 0⟩] false [127, 126, 3, 16, 2])
 (.seq (.cond (.t 127)
 (.skip)
 (.exit 6))
 (.seq (.block 7 (.seq (.region 25 [
  ⟨(some 128), none, .mv (.t 126), [], [], 0⟩, 
  ⟨(some 17), none, .mv (.t 128), [], [], 0⟩] false [17, 3, 16, 126, 2])
 (.region 26 (
  ⟨(some 129), none, .mv (.t 17), [], [], 0⟩ :: 
  ⟨(some 130), none, .mv (.t 17), [], [], 0⟩ :: 
  ⟨(some 131), none, .bin .quo (.t 130) (.c (.n 8)), [], [], 0⟩ :: 
  ⟨(some 132), none, .idxA 8 1 (.t 3) (.t 131), [], [], 0⟩ :: 
  ⟨(some 133), none, .load none (.t 132), [], [], 0⟩ :: 
  ⟨(some 134), none, .mv (.t 17), [], [], 0⟩ :: 
  ⟨(some 135), none, .bin .rem (.t 134) (.c (.n 8)), [], [], 0⟩ :: 
  ⟨(some 136), none, .bin .mul (.c (.n 8)) (.t 135), [], [], 0⟩ :: 
  ⟨(some 137), none, .bin .sub (.c (.n 56)) (.t 136), [], [], 0⟩ :: 
  ⟨(some 138), none, .conv .u64 (.t 137), [], [], 0⟩ :: 
  ⟨(some 139), none, .bin .shr (.t 133) (.t 138), [], [], 0⟩ :: 
  ⟨(some 140), none, .conv .u8 (.t 139), [], [], 0⟩ :: 
  ⟨(some 141), none, .idxA 64 1 (.t 16) (.t 129), [], [], 0⟩ :: 
  ⟨none, none, .store none (.t 141) (.t 140), [], [], 0⟩ :: []) false [126, 3, 16, 2])))
 (.region 27 [
  ⟨(some 142), none, .bin .add (.t 126) (.c (.n 1)), [], [], 0⟩, 
  ⟨(some 126), none, .mv (.t 142), [], [], 0⟩] false [126, 3, 16, 2])))))))
 (.seq (.region 28 [
  ⟨(some 143), none, .load (some 64) (.t 16), [], [], 0⟩, 
  ⟨none, none, .store (some 64) (.t 2) (.t 143), [], [], 0⟩] false [2])
 (.ret))))))
def rs21 : List (Nat × Option (Option Nat)) := [(2, (some (some 64)))]

/-- towpath/hkdf.Same -/
def mc22 : MC := .seq (.region 0 [
  ⟨(some 4), none, .mv (.c (.bool false)), [], [], 0⟩] false [0, 1])
 (.seq (.seq (.region 1 [
  ⟨(some 7), none, .mv (.t 0), [], [], 0⟩, 
  ⟨(some 8), none, .lenS (.t 7), [], [], 0⟩, 
  ⟨(some 9), none, .mv (.t 1), [], [], 0⟩, 
  ⟨(some 10), none, .lenS (.t 9), [], [], 0⟩, 
  ⟨(some 11), none, .bin .neq (.t 8) (.t 10), [], [], 0⟩] false [11, 0, 1])
 (.cond (.t 11)
 (.seq (.region 2 [
  ⟨(some 4), none, .mv (.c (.bool false)), [], [], 0⟩] false [4])
 (.ret))
 (.skip)))
 (.seq (.region 3 [
  ⟨(some 5), none, .mv (.c (.u8 0)), [], [], 0⟩] false [0, 5, 1])
 (.seq (.seq (.region 4 [
  ⟨(some 12), none, .mv (.t 0), [], [], 0⟩, 
  ⟨(some 13), none, .lenS (.t 12), [], [], 0⟩, 
  ⟨(some 14), none, .mv (.c (.n 0)), [], [], 0⟩] false [14, 13, 5, 0, 1])
 (.block 0 (.loop (.seq (.region 5 [
  ⟨(some 15), none, .bin .lss (.t 14) (.t 13), [], [], 0⟩] false (15 :: 14 :: 5 :: 0 :: 1 :: 13 :: []))
 (.seq (.cond (.t 15)
 (.skip)
 (.exit 0))
 (.seq (.block 1 (.seq (.region 6 [
  ⟨(some 16), none, .mv (.t 14), [], [], 0⟩, 
  ⟨(some 6), none, .mv (.t 16), [], [], 0⟩] false (5 :: 0 :: 6 :: 1 :: 14 :: 13 :: []))
 (.region 7 (
  ⟨(some 17), none, .mv (.t 5), [], [], 0⟩ :: 
  ⟨(some 18), none, .mv (.t 0), [], [], 0⟩ :: 
  ⟨(some 19), none, .mv (.t 6), [], [], 0⟩ :: 
  ⟨(some 20), none, .idxS 1 (.t 18) (.t 19), [1, 2], [], 6⟩ :: 
  ⟨(some 21), none, .load none (.t 20), [3], [], 14⟩ :: 
  ⟨(some 22), none, .mv (.t 1), [], [], 0⟩ :: 
  ⟨(some 23), none, .mv (.t 6), [], [], 0⟩ :: 
  ⟨(some 24), none, .idxS 1 (.t 22) (.t 23), [5, 6], [], 96⟩ :: 
  ⟨(some 25), none, .load none (.t 24), [7], [], 224⟩ :: 
  ⟨(some 26), none, .bin .xor (.t 21) (.t 25), [4, 8], [], 510⟩ :: 
  ⟨(some 27), none, .bin .or (.t 17) (.t 26), [0, 9], [], 1023⟩ :: 
  ⟨(some 5), none, .mv (.t 27), (10 :: 0 :: 1 :: 2 :: 3 :: 4 :: 5 :: 6 :: 7 :: 8 :: 9 :: 10 :: []), [], 2047⟩ :: []) true [14, 13, 5, 0, 1])))
 (.region 8 [
  ⟨(some 28), none, .bin .add (.t 14) (.c (.n 1)), [], [], 0⟩, 
  ⟨(some 14), none, .mv (.t 28), [], [], 0⟩] false [14, 13, 5, 0, 1])))))))
 (.seq (.region 9 [
  ⟨(some 29), none, .mv (.t 5), [], [], 0⟩, 
  ⟨(some 30), none, .bin .eql (.t 29) (.c (.u8 0)), [], [], 0⟩, 
  ⟨(some 4), none, .mv (.t 30), [], [], 0⟩] false [4])
 (.ret)))))
def rs22 : List (Nat × Option (Option Nat)) := [(4, none)]

/-- towpath/towpathref5.kays -/
def mc23 : MC := .seq (.region 0 [
  ⟨(some 0), none, .mv (.c .nil), [], [], 0⟩] false [])
 (.seq (.region 1 [
  ⟨(some 1), none, .bsl .k64 ((.c (.u64 4794697086780616226)) :: (.c (.u64 8158064640168781261)) :: (.c (.u64 13096744586834688815)) :: (.c (.u64 16840607885511220156)) :: (.c (.u64 4131703408338449720)) :: (.c (.u64 6480981068601479193)) :: (.c (.u64 10538285296894168987)) :: (.c (.u64 12329834152419229976)) :: (.c (.u64 15566598209576043074)) :: (.c (.u64 1334009975649890238)) :: (.c (.u64 2608012711638119052)) :: (.c (.u64 6128411473006802146)) :: (.c (.u64 8268148722764581231)) :: (.c (.u64 9286055187155687089)) :: (.c (.u64 11230858885718282805)) :: (.c (.u64 13951009754708518548)) :: (.c (.u64 16472876342353939154)) :: (.c (.u64 17275323862435702243)) :: (.c (.u64 1135362057144423861)) :: (.c (.u64 2597628984639134821)) :: (.c (.u64 3308224258029322869)) :: (.c (.u64 5365058923640841347)) :: (.c (.u64 6679025012923562964)) :: (.c (.u64 8573033837759648693)) :: (.c (.u64 10970295158949994411)) :: (.c (.u64 12119686244451234320)) :: (.c (.u64 12683024718118986047)) :: (.c (.u64 13788192230050041572)) :: (.c (.u64 14330467153632333762)) :: (.c (.u64 15395433587784984357)) :: (.c (.u64 489312712824947311)) :: (.c (.u64 1452737877330783856)) :: (.c (.u64 2861767655752347644)) :: (.c (.u64 3322285676063803686)) :: (.c (.u64 5560940570517711597)) :: (.c (.u64 5996557281743188959)) :: (.c (.u64 7280758554555802590)) :: (.c (.u64 8532644243296465576)) :: (.c (.u64 9350256976987008742)) :: (.c (.u64 10552545826968843579)) :: (.c (.u64 11727347734174303076)) :: (.c (.u64 12113106623233404929)) :: (.c (.u64 14000437183269869457)) :: (.c (.u64 14369950271660146224)) :: (.c (.u64 15101387698204529176)) :: (.c (.u64 15463397548674623760)) :: (.c (.u64 17586052441742319658)) :: (.c (.u64 1182934255886127544)) :: (.c (.u64 1847814050463011016)) :: (.c (.u64 2177327727835720531)) :: (.c (.u64 2830643537854262169)) :: (.c (.u64 3796741975233480872)) :: (.c (.u64 4115178125766777443)) :: (.c (.u64 5681478168544905931)) :: (.c (.u64 6601373596472566643)) :: (.c (.u64 7507060721942968483)) :: (.c (.u64 8399075790359081724)) :: (.c (.u64 8693463985226723168)) :: (.c (.u64 9568029438360202098)) :: (.c (.u64 10144078919501101548)) :: (.c (.u64 10430055236837252648)) :: (.c (.u64 11840083180663258601)) :: (.c (.u64 13761210420658862357)) :: (.c (.u64 14299343276471374635)) :: (.c (.u64 14566680578165727644)) :: (.c (.u64 15097957966210449927)) :: (.c (.u64 16922976911328602910)) :: (.c (.u64 17689382322260857208)) :: (.c (.u64 500013540394364858)) :: (.c (.u64 748580250866718886)) :: (.c (.u64 1242879168328830382)) :: (.c (.u64 1977374033974150939)) :: (.c (.u64 2944078676154940804)) :: (.c (.u64 3659926193048069267)) :: (.c (.u64 4368137639120453308)) :: (.c (.u64 4836135668995329356)) :: (.c (.u64 5532061633213252278)) :: (.c (.u64 6448918945643986474)) :: (.c (.u64 6902733635092675308)) :: (.c (.u64 7801388544844847127)) :: []), [], [], 0⟩, 
  ⟨(some 0), none, .mv (.t 1), [], [], 0⟩] false [0])
 (.ret))
def rs23 : List (Nat × Option (Option Nat)) := [(0, none)]

/-- towpath/towpathref5.start -/
def mc24 : MC := .seq (.region 0 [
  ⟨(some 0), none, .alloc (.b64 (List.replicate 8 0)), [], [], 0⟩] false [0])
 (.seq (.region 1 [
  ⟨(some 1), none, .bld .k64 ((.c (.u64 7640891576956012808)) :: (.c (.u64 13503953896175478587)) :: (.c (.u64 4354685564936845355)) :: (.c (.u64 11912009170470909681)) :: (.c (.u64 5840696475078001361)) :: (.c (.u64 11170449401992604703)) :: (.c (.u64 2270897969802886507)) :: (.c (.u64 6620516959819538809)) :: []), [], [], 0⟩, 
  ⟨none, none, .store (some 8) (.t 0) (.t 1), [], [], 0⟩] false [0])
 (.ret))
def rs24 : List (Nat × Option (Option Nat)) := [(0, (some (some 8)))]

/-- towpath/towpathref5.pad -/
def mc25 : MC := .seq (.region 0 [
  ⟨(some 2), none, .mv (.c .nil), [], [], 0⟩] false [0])
 (.seq (.region 1 [
  ⟨(some 6), none, .mv (.t 0), [], [], 0⟩, 
  ⟨(some 7), none, .app .k8 [(.u8 0)] 1 (.c .nil) (.t 6), [], [], 0⟩, 
  ⟨(some 8), none, .bsl .k8 [(.c (.u8 128))], [], [], 0⟩, 
  ⟨(some 9), none, .app .k8 [(.u8 0)] 1 (.t 7) (.t 8), [], [], 0⟩, 
  ⟨(some 3), none, .mv (.t 9), [], [], 0⟩] false [3, 0])
 (.seq (.block 0 (.loop (.seq (.seq (.region 2 [
  ⟨(some 10), none, .mv (.t 3), [], [], 0⟩, 
  ⟨(some 11), none, .lenS (.t 10), [], [], 0⟩, 
  ⟨(some 12), none, .bin .rem (.t 11) (.c (.n 64)), [], [], 0⟩, 
  ⟨(some 13), none, .bin .neq (.t 12) (.c (.n 56)), [], [], 0⟩] false [13, 3, 0])
 (.cond (.t 13)
 (.skip)
 (.exit 0)))
 (.block 1 (.region 3 [
  ⟨(some 14), none, .mv (.t 3), [], [], 0⟩, 
  ⟨(some 15), none, .bsl .k8 [(.c (.u8 0))], [], [], 0⟩, 
  ⟨(some 16), none, .app .k8 [(.u8 0)] 1 (.t 14) (.t 15), [], [], 0⟩, 
  ⟨(some 3), none, .mv (.t 16), [], [], 0⟩] false [3, 0])))))
 (.seq (.region 4 [
  ⟨(some 17), none, .mv (.t 0), [], [], 0⟩, 
  ⟨(some 18), none, .lenS (.t 17), [], [], 0⟩, 
  ⟨(some 19), none, .conv .u64 (.t 18), [], [], 0⟩, 
  ⟨(some 20), none, .bin .mul (.t 19) (.c (.u64 8)), [], [], 0⟩, 
  ⟨(some 4), none, .mv (.t 20), [], [], 0⟩] false [3, 4])
 (.seq (.seq (.region 5 [
  ⟨(some 5), none, .mv (.c (.n 7)), [], [], 0⟩] false [5, 3, 4])
 (.block 2 (.loop (.seq (.seq (.region 6 [
  ⟨(some 21), none, .mv (.t 5), [], [], 0⟩, 
  ⟨(some 22), none, .bin .geq (.t 21) (.c (.n 0)), [], [], 0⟩] false [22, 3, 4, 5])
 (.cond (.t 22)
 (.skip)
 (.exit 2)))
 (.seq (.block 3 (.region 8 (
  ⟨(some 25), none, .mv (.t 3), [], [], 0⟩ :: 
  ⟨(some 26), none, .mv (.t 4), [], [], 0⟩ :: 
  ⟨(some 27), none, .mv (.t 5), [], [], 0⟩ :: 
  ⟨(some 28), none, .bin .mul (.c (.n 8)) (.t 27), [], [], 0⟩ :: 
  ⟨(some 29), none, .bin .shr (.t 26) (.t 28), [], [], 0⟩ :: 
  ⟨(some 30), none, .conv .u8 (.t 29), [], [], 0⟩ :: 
  ⟨(some 31), none, .bsl .k8 [(.t 30)], [], [], 0⟩ :: 
  ⟨(some 32), none, .app .k8 [(.u8 0)] 1 (.t 25) (.t 31), [], [], 0⟩ :: 
  ⟨(some 3), none, .mv (.t 32), [], [], 0⟩ :: []) false [5, 3, 4]))
 (.region 7 [
  ⟨(some 23), none, .mv (.t 5), [], [], 0⟩, 
  ⟨(some 24), none, .bin .sub (.t 23) (.c (.n 1)), [], [], 0⟩, 
  ⟨(some 5), none, .mv (.t 24), [], [], 0⟩] false [5, 3, 4]))))))
 (.seq (.region 9 [
  ⟨(some 33), none, .mv (.t 3), [], [], 0⟩, 
  ⟨(some 2), none, .mv (.t 33), [], [], 0⟩] false [2])
 (.ret))))))
def rs25 : List (Nat × Option (Option Nat)) := [(2, none)]

/-- towpath/towpathref5.rot -/
def mc26 : MC := .seq (.region 0 [
  ⟨(some 4), none, .mv (.c (.u32 0)), [], [], 0⟩] false [0, 1])
 (.seq (.region 1 (
  ⟨(some 5), none, .mv (.t 0), [], [], 0⟩ :: 
  ⟨(some 6), none, .mv (.t 1), [], [], 0⟩ :: 
  ⟨(some 7), none, .bin .shr (.t 5) (.t 6), [0, 1], [], 3⟩ :: 
  ⟨(some 8), none, .mv (.t 0), [], [], 0⟩ :: 
  ⟨(some 9), none, .mv (.t 1), [], [], 0⟩ :: 
  ⟨(some 10), none, .bin .sub (.c (.n 32)) (.t 9), [4], [], 16⟩ :: 
  ⟨(some 11), none, .bin .shl (.t 8) (.t 10), [3, 5], [], 56⟩ :: 
  ⟨(some 12), none, .bin .or (.t 7) (.t 11), [2, 6], [], 127⟩ :: 
  ⟨(some 4), none, .mv (.t 12), (7 :: 0 :: 1 :: 2 :: 3 :: 4 :: 5 :: 6 :: 7 :: []), [], 255⟩ :: []) true [4])
 (.ret))
def rs26 : List (Nat × Option (Option Nat)) := [(4, none)]

/-- towpath/hkdf.pad -/
def mc27 : MC := .seq (.region 0 [
  ⟨(some 4), none, .mv (.c .nil), [], [], 0⟩] false [0, 1])
 (.seq (.seq (.region 1 [
  ⟨(some 8), none, .mv (.t 0), [], [], 0⟩, 
  ⟨(some 9), none, .lenS (.t 8), [], [], 0⟩, 
  ⟨(some 10), none, .bin .gtr (.t 9) (.c (.n 64)), [], [], 0⟩] false [10, 0, 1])
 (.cond (.t 10)
 (.seq (.region 2 [
  ⟨(some 11), none, .mv (.t 0), [], [], 0⟩, 
  ⟨(some 12), none, .bsl .kg [(.t 11)], [], [], 0⟩, 
  ⟨(some 13), none, .call false 20 [((.t 12), (some .kb))], [], [], 0⟩, 
  ⟨(some 5), none, .alloc (.b8 (List.replicate 32 0)), [], [], 0⟩, 
  ⟨none, none, .store (some 32) (.t 5) (.t 13), [], [], 0⟩] false [5, 1])
 (.region 3 [
  ⟨(some 14), none, .slcA 32 1 (.t 5) none none, [], [], 0⟩, 
  ⟨(some 0), none, .mv (.t 14), [], [], 0⟩] false [0, 1]))
 (.skip)))
 (.seq (.region 4 [
  ⟨(some 15), none, .mk .k8 [(.u8 0)] 1 (.c (.n 64)) (.c (.n 64)), [], [], 0⟩, 
  ⟨(some 6), none, .mv (.t 15), [], [], 0⟩] false [6, 0, 1])
 (.seq (.region 5 [
  ⟨(some 16), none, .mv (.t 6), [], [], 0⟩, 
  ⟨(some 17), none, .mv (.t 0), [], [], 0⟩, 
  ⟨(some 18), none, .copy (.t 16) (.t 17), [], [], 0⟩] false [6, 1])
 (.seq (.seq (.region 6 [
  ⟨(some 19), none, .mv (.t 6), [], [], 0⟩, 
  ⟨(some 20), none, .lenS (.t 19), [], [], 0⟩, 
  ⟨(some 21), none, .mv (.c (.n 0)), [], [], 0⟩] false [21, 20, 6, 1])
 (.block 0 (.loop (.seq (.region 7 [
  ⟨(some 22), none, .bin .lss (.t 21) (.t 20), [], [], 0⟩] false [22, 21, 6, 1, 20])
 (.seq (.cond (.t 22)
 (.skip)
 (.exit 0))
 (.seq (.block 1 (.seq (.region 8 [
  ⟨(some 23), none, .mv (.t 21), [], [], 0⟩, 
  ⟨(some 7), none, .mv (.t 23), [], [], 0⟩] false [6, 7, 1, 21, 20])
 (.region 9 (
  ⟨(some 24), none, .mv (.t 6), [], [], 0⟩ :: 
  ⟨(some 25), none, .mv (.t 7), [], [], 0⟩ :: 
  ⟨(some 26), none, .idxS 1 (.t 24) (.t 25), [], [], 0⟩ :: 
  ⟨(some 27), none, .load none (.t 26), [], [], 0⟩ :: 
  ⟨(some 28), none, .mv (.t 1), [], [], 0⟩ :: 
  ⟨(some 29), none, .bin .xor (.t 27) (.t 28), [], [], 0⟩ :: 
  ⟨(some 30), none, .idxS 1 (.t 24) (.t 25), [], [], 0⟩ :: 
  ⟨none, none, .store none (.t 30) (.t 29), [], [], 0⟩ :: []) false [21, 20, 6, 1])))
 (.region 10 [
  ⟨(some 31), none, .bin .add (.t 21) (.c (.n 1)), [], [], 0⟩, 
  ⟨(some 21), none, .mv (.t 31), [], [], 0⟩] false [21, 20, 6, 1])))))))
 (.seq (.region 11 [
  ⟨(some 32), none, .mv (.t 6), [], [], 0⟩, 
  ⟨(some 4), none, .mv (.t 32), [], [], 0⟩] false [4])
 (.ret))))))
def rs27 : List (Nat × Option (Option Nat)) := [(4, none)]

/-- towpath/towpathref5.rotl -/
def mc28 : MC := .seq (.region 0 [
  ⟨(some 4), none, .mv (.c (.u64 0)), [], [], 0⟩] false [0, 1])
 (.seq (.region 1 (
  ⟨(some 5), none, .mv (.t 0), [], [], 0⟩ :: 
  ⟨(some 6), none, .mv (.t 1), [], [], 0⟩ :: 
  ⟨(some 7), none, .bin .shr (.t 5) (.t 6), [0, 1], [], 3⟩ :: 
  ⟨(some 8), none, .mv (.t 0), [], [], 0⟩ :: 
  ⟨(some 9), none, .mv (.t 1), [], [], 0⟩ :: 
  ⟨(some 10), none, .bin .sub (.c (.n 64)) (.t 9), [4], [], 16⟩ :: 
  ⟨(some 11), none, .bin .shl (.t 8) (.t 10), [3, 5], [], 56⟩ :: 
  ⟨(some 12), none, .bin .or (.t 7) (.t 11), [2, 6], [], 127⟩ :: 
  ⟨(some 4), none, .mv (.t 12), (7 :: 0 :: 1 :: 2 :: 3 :: 4 :: 5 :: 6 :: 7 :: []), [], 255⟩ :: []) true [4])
 (.ret))
def rs28 : List (Nat × Option (Option Nat)) := [(4, none)]

/-- towpath/sha2.start256 -/
def mc29 : MC := .seq (.region 0 [
  ⟨(some 0), none, .alloc (.b32 (List.replicate 8 0)), [], [], 0⟩] false [0])
 (.seq (.region 1 [
  ⟨(some 1), none, .bld .k32 ((.c (.u32 1779033703)) :: (.c (.u32 3144134277)) :: (.c (.u32 1013904242)) :: (.c (.u32 2773480762)) :: (.c (.u32 1359893119)) :: (.c (.u32 2600822924)) :: (.c (.u32 528734635)) :: (.c (.u32 1541459225)) :: []), [], [], 0⟩, 
  ⟨none, none, .store (some 8) (.t 0) (.t 1), [], [], 0⟩] false [0])
 (.ret))
def rs29 : List (Nat × Option (Option Nat)) := [(0, (some (some 8)))]

/-- towpath/sha2.round256 -/
def mc30 : MC := .seq (.region 0 [
  ⟨(some 0), none, .alloc (.b32 (List.replicate 64 0)), [], [], 0⟩] false [0])
 (.seq (.region 1 [
  ⟨(some 1), none, .bld .k32 ((.c (.u32 1116352408)) :: (.c (.u32 1899447441)) :: (.c (.u32 3049323471)) :: (.c (.u32 3921009573)) :: (.c (.u32 961987163)) :: (.c (.u32 1508970993)) :: (.c (.u32 2453635748)) :: (.c (.u32 2870763221)) :: (.c (.u32 3624381080)) :: (.c (.u32 310598401)) :: (.c (.u32 607225278)) :: (.c (.u32 1426881987)) :: (.c (.u32 1925078388)) :: (.c (.u32 2162078206)) :: (.c (.u32 2614888103)) :: (.c (.u32 3248222580)) :: (.c (.u32 3835390401)) :: (.c (.u32 4022224774)) :: (.c (.u32 264347078)) :: (.c (.u32 604807628)) :: (.c (.u32 770255983)) :: (.c (.u32 1249150122)) :: (.c (.u32 1555081692)) :: (.c (.u32 1996064986)) :: (.c (.u32 2554220882)) :: (.c (.u32 2821834349)) :: (.c (.u32 2952996808)) :: (.c (.u32 3210313671)) :: (.c (.u32 3336571891)) :: (.c (.u32 3584528711)) :: (.c (.u32 113926993)) :: (.c (.u32 338241895)) :: (.c (.u32 666307205)) :: (.c (.u32 773529912)) :: (.c (.u32 1294757372)) :: (.c (.u32 1396182291)) :: (.c (.u32 1695183700)) :: (.c (.u32 1986661051)) :: (.c (.u32 2177026350)) :: (.c (.u32 2456956037)) :: (.c (.u32 2730485921)) :: (.c (.u32 2820302411)) :: (.c (.u32 3259730800)) :: (.c (.u32 3345764771)) :: (.c (.u32 3516065817)) :: (.c (.u32 3600352804)) :: (.c (.u32 4094571909)) :: (.c (.u32 275423344)) :: (.c (.u32 430227734)) :: (.c (.u32 506948616)) :: (.c (.u32 659060556)) :: (.c (.u32 883997877)) :: (.c (.u32 958139571)) :: (.c (.u32 1322822218)) :: (.c (.u32 1537002063)) :: (.c (.u32 1747873779)) :: (.c (.u32 1955562222)) :: (.c (.u32 2024104815)) :: (.c (.u32 2227730452)) :: (.c (.u32 2361852424)) :: (.c (.u32 2428436474)) :: (.c (.u32 2756734187)) :: (.c (.u32 3204031479)) :: (.c (.u32 3329325298)) :: []), [], [], 0⟩, 
  ⟨none, none, .store (some 64) (.t 0) (.t 1), [], [], 0⟩] false [0])
 (.ret))
def rs30 : List (Nat × Option (Option Nat)) := [(0, (some (some 64)))]

/-- towpath/sha2.padded -/
def mc31 : MC := .seq (.region 0 [
  ⟨(some 4), none, .mv (.c .nil), [], [], 0⟩] false [0, 1])
 (.seq (.region 1 [
  ⟨(some 8), none, .mv (.t 0), [], [], 0⟩, 
  ⟨(some 9), none, .call false 39 [((.t 8), (some .kb))], [], [], 0⟩, 
  ⟨(some 5), none, .mv (.t 9), [], [], 0⟩] false [5, 1])
 (.seq (.region 2 [
  ⟨(some 10), none, .mv (.t 5), [], [], 0⟩, 
  ⟨(some 11), none, .lenS (.t 10), [], [], 0⟩, 
  ⟨(some 12), none, .conv .u64 (.t 11), [], [], 0⟩, 
  ⟨(some 13), none, .bin .mul (.t 12) (.c (.u64 8)), [], [], 0⟩, 
  ⟨(some 6), none, .mv (.t 13), [], [], 0⟩] false [5, 1, 6])
 (.seq (.region 3 [
  ⟨(some 14), none, .mv (.t 5), [], [], 0⟩, 
  ⟨(some 15), none, .bsl .k8 [(.c (.u8 128))], [], [], 0⟩, 
  ⟨(some 16), none, .app .k8 [(.u8 0)] 1 (.t 14) (.t 15), [], [], 0⟩, 
  ⟨(some 5), none, .mv (.t 16), [], [], 0⟩] false [5, 1, 6])
 (.seq (.block 0 (.loop (.seq (.seq (.region 4 (
  ⟨(some 17), none, .mv (.t 5), [], [], 0⟩ :: 
  ⟨(some 18), none, .lenS (.t 17), [], [], 0⟩ :: 
  ⟨(some 19), none, .mv (.t 1), [], [], 0⟩ :: 
  ⟨(some 20), none, .bin .rem (.t 18) (.t 19), [], [], 0⟩ :: 
  ⟨(some 21), none, .mv (.t 1), [], [], 0⟩ :: 
  ⟨(some 22), none, .bin .sub (.t 21) (.c (.n 8)), [], [], 0⟩ :: 
  ⟨(some 23), none, .bin .neq (.t 20) (.t 22), [], [], 0⟩ :: []) false [23, 5, 1, 6])
 (.cond (.t 23)
 (.skip)
 (.exit 0)))
 (.block 1 (.region 5 [
  ⟨(some 24), none, .mv (.t 5), [], [], 0⟩, 
  ⟨(some 25), none, .bsl .k8 [(.c (.u8 0))], [], [], 0⟩, 
  ⟨(some 26), none, .app .k8 [(.u8 0)] 1 (.t 24) (.t 25), [], [], 0⟩, 
  ⟨(some 5), none, .mv (.t 26), [], [], 0⟩] false [5, 1, 6])))))
 (.seq (.seq (.region 6 [
  ⟨(some 7), none, .mv (.c (.n 56)), [], [], 0⟩] false [7, 5, 6])
 (.block 2 (.loop (.seq (.seq (.region 7 [
  ⟨(some 27), none, .mv (.t 7), [], [], 0⟩, 
  ⟨(some 28), none, .bin .geq (.t 27) (.c (.n 0)), [], [], 0⟩] false [28, 5, 6, 7])
 (.cond (.t 28)
 (.skip)
 (.exit 2)))
 (.seq (.block 3 (.region 9 (
  ⟨(some 31), none, .mv (.t 5), [], [], 0⟩ :: 
  ⟨(some 32), none, .mv (.t 6), [], [], 0⟩ :: 
  ⟨(some 33), none, .mv (.t 7), [], [], 0⟩ :: 
  ⟨(some 34), none, .conv .u64 (.t 33), [], [], 0⟩ :: 
  ⟨(some 35), none, .bin .shr (.t 32) (.t 34), [], [], 0⟩ :: 
  ⟨(some 36), none, .conv .u8 (.t 35), [], [], 0⟩ :: 
  ⟨(some 37), none, .bsl .k8 [(.t 36)], [], [], 0⟩ :: 
  ⟨(some 38), none, .app .k8 [(.u8 0)] 1 (.t 31) (.t 37), [], [], 0⟩ :: 
  ⟨(some 5), none, .mv (.t 38), [], [], 0⟩ :: []) false [7, 5, 6]))
 (.region 8 [
  ⟨(some 29), none, .mv (.t 7), [], [], 0⟩, 
  ⟨(some 30), none, .bin .sub (.t 29) (.c (.n 8)), [], [], 0⟩, 
  ⟨(some 7), none, .mv (.t 30), [], [], 0⟩] false [7, 5, 6]))))))
 (.seq (.region 10 [
  ⟨(some 39), none, .mv (.t 5), [], [], 0⟩, 
  ⟨(some 4), none, .mv (.t 39), [], [], 0⟩] false [4])
 (.ret)))))))
def rs31 : List (Nat × Option (Option Nat)) := [(4, none)]

/-- towpath/sha2.words256 -/
def mc32 : MC := .seq (.region 0 [
  ⟨(some 2), none, .alloc (.b32 (List.replicate 64 0)), [], [], 0⟩] false [0, 2])
 (.seq (.region 1 [
  ⟨(some 3), none, .alloc (.b32 (List.replicate 64 0)), [], [], 0⟩] false [0, 3, 2])
 (.seq (.seq (.region 2 [
  ⟨(some 10), none, .mv (.c (.n 0)), [], [], 0⟩] false [10, 0, 3, 2])
 (.block 0 (.loop (.seq (.region 3 [
  ⟨(some 11), none, .bin .lss (.t 10) (.c (.n 16)), [], [], 0⟩] false [11, 10, 0, 3, 2])
 (.seq (.cond (.t 11)
 (.skip)
 (.exit 0))
 (.seq (.block 1 (.seq (.region 4 [
  ⟨(some 12), none, .mv (.t 10), [], [], 0⟩, 
  ⟨(some 4), none, .mv (.t 12), [], [], 0⟩] false [4, 0, 3, 10, 2])
 (.region 5 (
  ⟨(some 13), none, .mv (.t 4), [], [], 0⟩ :: 
  ⟨(some 14), none, .mv (.t 0), [], [], 0⟩ :: 
  ⟨(some 15), none, .mv (.t 4), [], [], 0⟩ :: 
  ⟨(some 16), none, .bin .mul (.c (.n 4)) (.t 15), [2], [], 4⟩ :: 
  ⟨(some 17), none, .idxS 1 (.t 14) (.t 16), [1, 3], [], 14⟩ :: 
  ⟨(some 18), none, .load none (.t 17), [4], [], 30⟩ :: 
  ⟨(some 19), none, .conv .u32 (.t 18), [5], [], 62⟩ :: 
  ⟨(some 20), none, .bin .shl (.t 19) (.c (.u64 24)), [6], [], 126⟩ :: 
  ⟨(some 21), none, .mv (.t 0), [], [], 0⟩ :: 
  ⟨(some 22), none, .mv (.t 4), [], [], 0⟩ :: 
  ⟨(some 23), none, .bin .mul (.c (.n 4)) (.t 22), [9], [], 512⟩ :: 
  ⟨(some 24), none, .bin .add (.t 23) (.c (.n 1)), [10], [], 1536⟩ :: 
  ⟨(some 25), none, .idxS 1 (.t 21) (.t 24), [8, 11], [], 3840⟩ :: 
  ⟨(some 26), none, .load none (.t 25), [12], [], 7936⟩ :: 
  ⟨(some 27), none, .conv .u32 (.t 26), [13], [], 16128⟩ :: 
  ⟨(some 28), none, .bin .shl (.t 27) (.c (.u64 16)), [14], [], 32512⟩ :: 
  ⟨(some 29), none, .bin .or (.t 20) (.t 28), [7, 15], [], 65534⟩ :: 
  ⟨(some 30), none, .mv (.t 0), [], [], 0⟩ :: 
  ⟨(some 31), none, .mv (.t 4), [], [], 0⟩ :: 
  ⟨(some 32), none, .bin .mul (.c (.n 4)) (.t 31), [18], [], 262144⟩ :: 
  ⟨(some 33), none, .bin .add (.t 32) (.c (.n 2)), [19], [], 786432⟩ :: 
  ⟨(some 34), none, .idxS 1 (.t 30) (.t 33), [17, 20], [], 1966080⟩ :: 
  ⟨(some 35), none, .load none (.t 34), [21], [], 4063232⟩ :: 
  ⟨(some 36), none, .conv .u32 (.t 35), [22], [], 8257536⟩ :: 
  ⟨(some 37), none, .bin .shl (.t 36) (.c (.u64 8)), [23], [], 16646144⟩ :: 
  ⟨(some 38), none, .bin .or (.t 29) (.t 37), [16, 24], [], 33554430⟩ :: 
  ⟨(some 39), none, .mv (.t 0), [], [], 0⟩ :: 
  ⟨(some 40), none, .mv (.t 4), [], [], 0⟩ :: 
  ⟨(some 41), none, .bin .mul (.c (.n 4)) (.t 40), [27], [], 134217728⟩ :: 
  ⟨(some 42), none, .bin .add (.t 41) (.c (.n 3)), [28], [], 402653184⟩ :: 
  ⟨(some 43), none, .idxS 1 (.t 39) (.t 42), [26, 29], [], 1006632960⟩ :: 
  ⟨(some 44), none, .load none (.t 43), [30], [], 2080374784⟩ :: 
  ⟨(some 45), none, .conv .u32 (.t 44), [31], [], 4227858432⟩ :: 
  ⟨(some 46), none, .bin .or (.t 38) (.t 45), [25, 32], [], 8589934590⟩ :: 
  ⟨(some 47), none, .idxA 64 1 (.t 3) (.t 13), (0 :: 0 :: 1 :: 2 :: 3 :: 4 :: 5 :: 6 :: 7 :: 8 :: 9 :: 10 :: 11 :: 12 :: 13 :: 14 :: 15 :: 16 :: 17 :: 18 :: 19 :: 20 :: 21 :: 22 :: 23 :: 24 :: 25 :: 26 :: 27 :: 28 :: 29 :: 30 :: 31 :: 32 :: 33 :: []), [], 17179869183⟩ :: 
  ⟨none, none, .store none (.t 47) (.t 46), (34 :: 33 :: 0 :: 1 :: 2 :: 3 :: 4 :: 5 :: 6 :: 7 :: 8 :: 9 :: 10 :: 11 :: 12 :: 13 :: 14 :: 15 :: 16 :: 17 :: 18 :: 19 :: 20 :: 21 :: 22 :: 23 :: 24 :: 25 :: 26 :: 27 :: 28 :: 29 :: 30 :: 31 :: 32 :: 33 :: []), [], 34359738367⟩ :: []) true [10, 0, 3, 2])))
 (.region 6 [
  ⟨(some 48), none, .bin .add (.t 10) (.c (.n 1)), [], [], 0⟩, 
  ⟨(some 10), none, .mv (.t 48), [], [], 0⟩] false [10, 0, 3, 2])))))))
 (.seq (.seq (.region 7 [
  ⟨(some 5), none, .mv (.c (.n 16)), [], [], 0⟩] false [5, 3, 2])
 (.block 2 (.loop (.seq (.seq (.region 8 [
  ⟨(some 49), none, .mv (.t 5), [], [], 0⟩, 
  ⟨(some 50), none, .bin .lss (.t 49) (.c (.n 64)), [], [], 0⟩] false [50, 5, 3, 2])
 (.cond (.t 50)
 (.skip)
 (.exit 2)))
 (.seq (.block 3 (.seq (.region 10 (
  ⟨(some 53), none, .mv (.t 5), [], [], 0⟩ :: 
  ⟨(some 54), none, .bin .sub (.t 53) (.c (.n 15)), [0], [], 1⟩ :: 
  ⟨(some 55), none, .idxA 64 1 (.t 3) (.t 54), [1], [], 3⟩ :: 
  ⟨(some 56), none, .load none (.t 55), [2], [], 7⟩ :: 
  ⟨(some 57), none, .mv (.t 5), [], [], 0⟩ :: 
  ⟨(some 58), none, .bin .sub (.t 57) (.c (.n 2)), [4], [], 16⟩ :: 
  ⟨(some 59), none, .idxA 64 1 (.t 3) (.t 58), [5], [], 48⟩ :: 
  ⟨(some 60), none, .load none (.t 59), [6], [], 112⟩ :: 
  ⟨(some 6), none, .mv (.t 56), [3, 0, 1, 2, 3], [], 15⟩ :: 
  ⟨(some 7), none, .mv (.t 60), (7 :: 8 :: 0 :: 1 :: 2 :: 3 :: 4 :: 5 :: 6 :: 7 :: 8 :: []), [], 511⟩ :: []) true [6, 7, 5, 3, 2])
 (.seq (.region 11 (
  ⟨(some 61), none, .mv (.t 6), [], [], 0⟩ :: 
  ⟨(some 62), none, .call false 33 [((.t 61), none), ((.c (.i (-7))), none)], [], [], 0⟩ :: 
  ⟨(some 63), none, .mv (.t 6), [], [], 0⟩ :: 
  ⟨(some 64), none, .call false 33 [((.t 63), none), ((.c (.i (-18))), none)], [], [], 0⟩ :: 
  ⟨(some 65), none, .bin .xor (.t 62) (.t 64), [], [], 0⟩ :: 
  ⟨(some 66), none, .mv (.t 6), [], [], 0⟩ :: 
  ⟨(some 67), none, .bin .shr (.t 66) (.c (.u64 3)), [], [], 0⟩ :: 
  ⟨(some 68), none, .bin .xor (.t 65) (.t 67), [], [], 0⟩ :: 
  ⟨(some 8), none, .mv (.t 68), [], [], 0⟩ :: []) false [7, 5, 3, 8, 2])
 (.seq (.region 12 (
  ⟨(some 69), none, .mv (.t 7), [], [], 0⟩ :: 
  ⟨(some 70), none, .call false 33 [((.t 69), none), ((.c (.i (-17))), none)], [], [], 0⟩ :: 
  ⟨(some 71), none, .mv (.t 7), [], [], 0⟩ :: 
  ⟨(some 72), none, .call false 33 [((.t 71), none), ((.c (.i (-19))), none)], [], [], 0⟩ :: 
  ⟨(some 73), none, .bin .xor (.t 70) (.t 72), [], [], 0⟩ :: 
  ⟨(some 74), none, .mv (.t 7), [], [], 0⟩ :: 
  ⟨(some 75), none, .bin .shr (.t 74) (.c (.u64 10)), [], [], 0⟩ :: 
  ⟨(some 76), none, .bin .xor (.t 73) (.t 75), [], [], 0⟩ :: 
  ⟨(some 9), none, .mv (.t 76), [], [], 0⟩ :: []) false [5, 3, 8, 9, 2])
 (.region 13 (
  ⟨(some 77), none, .mv (.t 5), [], [], 0⟩ :: 
  ⟨(some 78), none, .mv (.t 5), [], [], 0⟩ :: 
  ⟨(some 79), none, .bin .sub (.t 78) (.c (.n 16)), [1], [], 2⟩ :: 
  ⟨(some 80), none, .idxA 64 1 (.t 3) (.t 79), [2], [], 6⟩ :: 
  ⟨(some 81), none, .load none (.t 80), [3], [], 14⟩ :: 
  ⟨(some 82), none, .mv (.t 8), [], [], 0⟩ :: 
  ⟨(some 83), none, .bin .add (.t 81) (.t 82), [4, 5], [], 62⟩ :: 
  ⟨(some 84), none, .mv (.t 5), [], [], 0⟩ :: 
  ⟨(some 85), none, .bin .sub (.t 84) (.c (.n 7)), [7], [], 128⟩ :: 
  ⟨(some 86), none, .idxA 64 1 (.t 3) (.t 85), [8], [], 384⟩ :: 
  ⟨(some 87), none, .load none (.t 86), [9], [], 896⟩ :: 
  ⟨(some 88), none, .bin .add (.t 83) (.t 87), [6, 10], [], 2046⟩ :: 
  ⟨(some 89), none, .mv (.t 9), [], [], 0⟩ :: 
  ⟨(some 90), none, .bin .add (.t 88) (.t 89), [11, 12], [], 8190⟩ :: 
  ⟨(some 91), none, .idxA 64 1 (.t 3) (.t 77), (0 :: 0 :: 1 :: 2 :: 3 :: 4 :: 5 :: 6 :: 7 :: 8 :: 9 :: 10 :: 11 :: 12 :: 13 :: []), [], 16383⟩ :: 
  ⟨none, none, .store none (.t 91) (.t 90), (14 :: 13 :: 0 :: 1 :: 2 :: 3 :: 4 :: 5 :: 6 :: 7 :: 8 :: 9 :: 10 :: 11 :: 12 :: 13 :: []), [], 32767⟩ :: []) true [5, 3, 2])))))
 (.region 9 [
  ⟨(some 51), none, .mv (.t 5), [], [], 0⟩, 
  ⟨(some 52), none, .bin .add (.t 51) (.c (.n 1)), [], [], 0⟩, 
  ⟨(some 5), none, .mv (.t 52), [], [], 0⟩] false [5, 3, 2]))))))
 (.seq (.region 14 [
  ⟨(some 92), none, .load (some 64) (.t 3), [], [], 0⟩, 
  ⟨none, none, .store (some 64) (.t 2) (.t 92), [], [], 0⟩] false [2])
 (.ret)))))
def rs32 : List (Nat × Option (Option Nat)) := [(2, (some (some 64)))]

/-- math/bits.RotateLeft32 -/
def mc33 : MC := .seq (.region 0 [
  ⟨(some 4), none, .mv (.c (.u32 0)), [], [], 0⟩] false [1, 0])
 (.seq (.region 1 [
  ⟨(some 6), none, .mv (.t 1), [], [], 0⟩, 
  ⟨(some 7), none, .conv .u64 (.t 6), [], [], 0⟩, 
  ⟨(some 8), none, .bin .and (.t 7) (.c (.u64 31)), [], [], 0⟩, 
  ⟨(some 5), none, .mv (.t 8), [], [], 0⟩] false [0, 5])
 (.seq (.region 2 (
  ⟨(some 9), none, .mv (.t 0), [], [], 0⟩ :: 
  ⟨(some 10), none, .mv (.t 5), [], [], 0⟩ :: 
  ⟨(some 11), none, .bin .shl (.t 9) (.t 10), [], [], 0⟩ :: 
  ⟨(some 12), none, .mv (.t 0), [], [], 0⟩ :: 
  ⟨(some 13), none, .mv (.t 5), [], [], 0⟩ :: 
  ⟨(some 14), none, .bin .sub (.c (.u64 32)) (.t 13), [], [], 0⟩ :: 
  ⟨(some 15), none, .bin .shr (.t 12) (.t 14), [], [], 0⟩ :: 
  ⟨(some 16), none, .bin .or (.t 11) (.t 15), [], [], 0⟩ :: 
  ⟨(some 4), none, .mv (.t 16), [], [], 0⟩ :: []) false [4])
 (.ret)))
def rs33 : List (Nat × Option (Option Nat)) := [(4, none)]

/-- towpath/sha2.start512 -/
def mc34 : MC := .seq (.region 0 [
  ⟨(some 0), none, .alloc (.b64 (List.replicate 8 0)), [], [], 0⟩] false [0])
 (.seq (.region 1 [
  ⟨(some 1), none, .bld .k64 ((.c (.u64 7640891576956012808)) :: (.c (.u64 13503953896175478587)) :: (.c (.u64 4354685564936845355)) :: (.c (.u64 11912009170470909681)) :: (.c (.u64 5840696475078001361)) :: (.c (.u64 11170449401992604703)) :: (.c (.u64 2270897969802886507)) :: (.c (.u64 6620516959819538809)) :: []), [], [], 0⟩, 
  ⟨none, none, .store (some 8) (.t 0) (.t 1), [], [], 0⟩] false [0])
 (.ret))
def rs34 : List (Nat × Option (Option Nat)) := [(0, (some (some 8)))]

/-- towpath/sha2.round512 -/
def mc35 : MC := .seq (.region 0 [
  ⟨(some 0), none, .alloc (.b64 (List.replicate 80 0)), [], [], 0⟩] false [0])
 (.seq (.region 1 [
  ⟨(some 1), none, .bld .k64 ((.c (.u64 4794697086780616226)) :: (.c (.u64 8158064640168781261)) :: (.c (.u64 13096744586834688815)) :: (.c (.u64 16840607885511220156)) :: (.c (.u64 4131703408338449720)) :: (.c (.u64 6480981068601479193)) :: (.c (.u64 10538285296894168987)) :: (.c (.u64 12329834152419229976)) :: (.c (.u64 15566598209576043074)) :: (.c (.u64 1334009975649890238)) :: (.c (.u64 2608012711638119052)) :: (.c (.u64 6128411473006802146)) :: (.c (.u64 8268148722764581231)) :: (.c (.u64 9286055187155687089)) :: (.c (.u64 11230858885718282805)) :: (.c (.u64 13951009754708518548)) :: (.c (.u64 16472876342353939154)) :: (.c (.u64 17275323862435702243)) :: (.c (.u64 1135362057144423861)) :: (.c (.u64 2597628984639134821)) :: (.c (.u64 3308224258029322869)) :: (.c (.u64 5365058923640841347)) :: (.c (.u64 6679025012923562964)) :: (.c (.u64 8573033837759648693)) :: (.c (.u64 10970295158949994411)) :: (.c (.u64 12119686244451234320)) :: (.c (.u64 12683024718118986047)) :: (.c (.u64 13788192230050041572)) :: (.c (.u64 14330467153632333762)) :: (.c (.u64 15395433587784984357)) :: (.c (.u64 489312712824947311)) :: (.c (.u64 1452737877330783856)) :: (.c (.u64 2861767655752347644)) :: (.c (.u64 3322285676063803686)) :: (.c (.u64 5560940570517711597)) :: (.c (.u64 5996557281743188959)) :: (.c (.u64 7280758554555802590)) :: (.c (.u64 8532644243296465576)) :: (.c (.u64 9350256976987008742)) :: (.c (.u64 10552545826968843579)) :: (.c (.u64 11727347734174303076)) :: (.c (.u64 12113106623233404929)) :: (.c (.u64 14000437183269869457)) :: (.c (.u64 14369950271660146224)) :: (.c (.u64 15101387698204529176)) :: (.c (.u64 15463397548674623760)) :: (.c (.u64 17586052441742319658)) :: (.c (.u64 1182934255886127544)) :: (.c (.u64 1847814050463011016)) :: (.c (.u64 2177327727835720531)) :: (.c (.u64 2830643537854262169)) :: (.c (.u64 3796741975233480872)) :: (.c (.u64 4115178125766777443)) :: (.c (.u64 5681478168544905931)) :: (.c (.u64 6601373596472566643)) :: (.c (.u64 7507060721942968483)) :: (.c (.u64 8399075790359081724)) :: (.c (.u64 8693463985226723168)) :: (.c (.u64 9568029438360202098)) :: (.c (.u64 10144078919501101548)) :: (.c (.u64 10430055236837252648)) :: (.c (.u64 11840083180663258601)) :: (.c (.u64 13761210420658862357)) :: (.c (.u64 14299343276471374635)) :: (.c (.u64 14566680578165727644)) :: (.c (.u64 15097957966210449927)) :: (.c (.u64 16922976911328602910)) :: (.c (.u64 17689382322260857208)) :: (.c (.u64 500013540394364858)) :: (.c (.u64 748580250866718886)) :: (.c (.u64 1242879168328830382)) :: (.c (.u64 1977374033974150939)) :: (.c (.u64 2944078676154940804)) :: (.c (.u64 3659926193048069267)) :: (.c (.u64 4368137639120453308)) :: (.c (.u64 4836135668995329356)) :: (.c (.u64 5532061633213252278)) :: (.c (.u64 6448918945643986474)) :: (.c (.u64 6902733635092675308)) :: (.c (.u64 7801388544844847127)) :: []), [], [], 0⟩, 
  ⟨none, none, .store (some 80) (.t 0) (.t 1), [], [], 0⟩] false [0])
 (.ret))
def rs35 : List (Nat × Option (Option Nat)) := [(0, (some (some 80)))]

/-- towpath/sha2.long -/
def mc36 : MC := .seq (.region 0 [
  ⟨(some 2), none, .mv (.c .nil), [], [], 0⟩] false [0])
 (.seq (.region 1 [
  ⟨(some 7), none, .mv (.t 0), [], [], 0⟩, 
  ⟨(some 8), none, .call false 31 [((.t 7), (some .kb)), ((.c (.n 64)), none)], [], [], 0⟩, 
  ⟨(some 3), none, .mv (.t 8), [], [], 0⟩] false [0, 3])
 (.seq (.region 2 [
  ⟨(some 9), none, .mv (.t 0), [], [], 0⟩, 
  ⟨(some 10), none, .call false 39 [((.t 9), (some .kb))], [], [], 0⟩, 
  ⟨(some 11), none, .lenS (.t 10), [], [], 0⟩, 
  ⟨(some 4), none, .mv (.t 11), [], [], 0⟩] false [4, 3])
 (.seq (.region 3 (
  ⟨(some 12), none, .mv (.t 4), [], [], 0⟩ :: 
  ⟨(some 13), none, .bin .add (.t 12) (.c (.n 1)), [], [], 0⟩ :: 
  ⟨(some 14), none, .bin .add (.t 13) (.c (.n 16)), [], [], 0⟩ :: 
  ⟨(some 15), none, .bin .add (.t 14) (.c (.n 128)), [], [], 0⟩ :: 
  ⟨(some 16), none, .bin .sub (.t 15) (.c (.n 1)), [], [], 0⟩ :: 
  ⟨(some 17), none, .bin .quo (.t 16) (.c (.n 128)), [], [], 0⟩ :: 
  ⟨(some 18), none, .bin .mul (.t 17) (.c (.n 128)), [], [], 0⟩ :: 
  ⟨(some 5), none, .mv (.t 18), [], [], 0⟩ :: []) false [3, 4, 5])
 (.seq (.region 4 (
  ⟨(some 19), none, .mv (.t 3), [], [], 0⟩ :: 
  ⟨(some 20), none, .mv (.t 4), [], [], 0⟩ :: 
  ⟨(some 21), none, .bin .add (.t 20) (.c (.n 1)), [], [], 0⟩ :: 
  ⟨(some 22), none, .slcS 1 (.t 19) none (some (.t 21)), [], [], 0⟩ :: 
  ⟨(some 23), none, .call false 40 [((.t 22), (some .k8))], [], [], 0⟩ :: 
  ⟨(some 24), none, .mv (.t 5), [], [], 0⟩ :: 
  ⟨(some 25), none, .mv (.t 4), [], [], 0⟩ :: 
  ⟨(some 26), none, .bin .sub (.t 24) (.t 25), [], [], 0⟩ :: 
  ⟨(some 27), none, .bin .sub (.t 26) (.c (.n 1)), [], [], 0⟩ :: 
  ⟨(some 28), none, .bin .sub (.t 27) (.c (.n 8)), [], [], 0⟩ :: 
  ⟨(some 29), none, .appz .k8 [(.u8 0)] 1 (.t 23) (.t 28), [], [], 0⟩ :: 
  ⟨(some 6), none, .mv (.t 29), [], [], 0⟩ :: []) false [6, 3])
 (.seq (.region 5 (
  ⟨(some 30), none, .mv (.t 6), [], [], 0⟩ :: 
  ⟨(some 31), none, .mv (.t 3), [], [], 0⟩ :: 
  ⟨(some 32), none, .mv (.t 3), [], [], 0⟩ :: 
  ⟨(some 33), none, .lenS (.t 32), [], [], 0⟩ :: 
  ⟨(some 34), none, .bin .sub (.t 33) (.c (.n 8)), [], [], 0⟩ :: 
  ⟨(some 35), none, .slcS 1 (.t 31) (some (.t 34)) none, [], [], 0⟩ :: 
  ⟨(some 36), none, .app .k8 [(.u8 0)] 1 (.t 30) (.t 35), [], [], 0⟩ :: 
  ⟨(some 2), none, .mv (.t 36), [], [], 0⟩ :: []) false [2])
 (.ret))))))
def rs36 : List (Nat × Option (Option Nat)) := [(2, none)]

/-- towpath/sha2.words512 -/
def mc37 : MC := .seq (.region 0 [
  ⟨(some 2), none, .alloc (.b64 (List.replicate 80 0)), [], [], 0⟩] false [0, 2])
 (.seq (.region 1 [
  ⟨(some 3), none, .alloc (.b64 (List.replicate 80 0)), [], [], 0⟩] false [3, 0, 2])
 (.seq (.seq (.region 2 [
  ⟨(some 10), none, .mv (.c (.n 0)), [], [], 0⟩] false [10, 3, 0, 2])
 (.block 0 (.loop (.seq (.region 3 [
  ⟨(some 11), none, .bin .lss (.t 10) (.c (.n 128)), [], [], 0⟩] false [11, 10, 3, 0, 2])
 (.seq (.cond (.t 11)
 (.skip)
 (.exit 0))
 (.seq (.block 1 (.seq (.region 4 [
  ⟨(some 12), none, .mv (.t 10), [], [], 0⟩, 
  ⟨(some 4), none, .mv (.t 12), [], [], 0⟩] false [4, 3, 0, 10, 2])
 (.region 5 (
  ⟨(some 13), none, .mv (.t 4), [], [], 0⟩ :: 
  ⟨(some 14), none, .bin .quo (.t 13) (.c (.n 8)), [0], [], 1⟩ :: 
  ⟨(some 15), none, .mv (.t 4), [], [], 0⟩ :: 
  ⟨(some 16), none, .bin .quo (.t 15) (.c (.n 8)), [2], [], 4⟩ :: 
  ⟨(some 17), none, .idxA 80 1 (.t 3) (.t 16), [3], [], 12⟩ :: 
  ⟨(some 18), none, .load none (.t 17), [4], [], 28⟩ :: 
  ⟨(some 19), none, .bin .shl (.t 18) (.c (.u64 8)), [5], [], 60⟩ :: 
  ⟨(some 20), none, .mv (.t 0), [], [], 0⟩ :: 
  ⟨(some 21), none, .mv (.t 4), [], [], 0⟩ :: 
  ⟨(some 22), none, .idxS 1 (.t 20) (.t 21), [7, 8], [], 384⟩ :: 
  ⟨(some 23), none, .load none (.t 22), [9], [], 896⟩ :: 
  ⟨(some 24), none, .conv .u64 (.t 23), [10], [], 1920⟩ :: 
  ⟨(some 25), none, .bin .or (.t 19) (.t 24), [6, 11], [], 4092⟩ :: 
  ⟨(some 26), none, .idxA 80 1 (.t 3) (.t 14), (1 :: 0 :: 1 :: 2 :: 3 :: 4 :: 5 :: 6 :: 7 :: 8 :: 9 :: 10 :: 11 :: 12 :: []), [], 8191⟩ :: 
  ⟨none, none, .store none (.t 26) (.t 25), (13 :: 12 :: 0 :: 1 :: 2 :: 3 :: 4 :: 5 :: 6 :: 7 :: 8 :: 9 :: 10 :: 11 :: 12 :: []), [], 16383⟩ :: []) true [10, 3, 0, 2])))
 (.region 6 [
  ⟨(some 27), none, .bin .add (.t 10) (.c (.n 1)), [], [], 0⟩, 
  ⟨(some 10), none, .mv (.t 27), [], [], 0⟩] false [10, 3, 0, 2])))))))
 (.seq (.seq (.region 7 [
  ⟨(some 5), none, .mv (.c (.n 16)), [], [], 0⟩] false [5, 3, 2])
 (.block 2 (.loop (.seq (.seq (.region 8 [
  ⟨(some 28), none, .mv (.t 5), [], [], 0⟩, 
  ⟨(some 29), none, .bin .lss (.t 28) (.c (.n 80)), [], [], 0⟩] false [29, 5, 3, 2])
 (.cond (.t 29)
 (.skip)
 (.exit 2)))
 (.seq (.block 3 (.seq (.region 10 (
  ⟨(some 32), none, .mv (.t 5), [], [], 0⟩ :: 
  ⟨(some 33), none, .bin .sub (.t 32) (.c (.n 15)), [0], [], 1⟩ :: 
  ⟨(some 34), none, .idxA 80 1 (.t 3) (.t 33), [1], [], 3⟩ :: 
  ⟨(some 35), none, .load none (.t 34), [2], [], 7⟩ :: 
  ⟨(some 36), none, .mv (.t 5), [], [], 0⟩ :: 
  ⟨(some 37), none, .bin .sub (.t 36) (.c (.n 2)), [4], [], 16⟩ :: 
  ⟨(some 38), none, .idxA 80 1 (.t 3) (.t 37), [5], [], 48⟩ :: 
  ⟨(some 39), none, .load none (.t 38), [6], [], 112⟩ :: 
  ⟨(some 6), none, .mv (.t 35), [3, 0, 1, 2, 3], [], 15⟩ :: 
  ⟨(some 7), none, .mv (.t 39), (7 :: 8 :: 0 :: 1 :: 2 :: 3 :: 4 :: 5 :: 6 :: 7 :: 8 :: []), [], 511⟩ :: []) true [6, 7, 5, 3, 2])
 (.seq (.region 11 (
  ⟨(some 40), none, .mv (.t 6), [], [], 0⟩ :: 
  ⟨(some 41), none, .call false 38 [((.t 40), none), ((.c (.i (-1))), none)], [], [], 0⟩ :: 
  ⟨(some 42), none, .mv (.t 6), [], [], 0⟩ :: 
  ⟨(some 43), none, .call false 38 [((.t 42), none), ((.c (.i (-8))), none)], [], [], 0⟩ :: 
  ⟨(some 44), none, .bin .xor (.t 41) (.t 43), [], [], 0⟩ :: 
  ⟨(some 45), none, .mv (.t 6), [], [], 0⟩ :: 
  ⟨(some 46), none, .bin .shr (.t 45) (.c (.u64 7)), [], [], 0⟩ :: 
  ⟨(some 47), none, .bin .xor (.t 44) (.t 46), [], [], 0⟩ :: 
  ⟨(some 8), none, .mv (.t 47), [], [], 0⟩ :: []) false [7, 5, 3, 8, 2])
 (.seq (.region 12 (
  ⟨(some 48), none, .mv (.t 7), [], [], 0⟩ :: 
  ⟨(some 49), none, .call false 38 [((.t 48), none), ((.c (.i (-19))), none)], [], [], 0⟩ :: 
  ⟨(some 50), none, .mv (.t 7), [], [], 0⟩ :: 
  ⟨(some 51), none, .call false 38 [((.t 50), none), ((.c (.i (-61))), none)], [], [], 0⟩ :: 
  ⟨(some 52), none, .bin .xor (.t 49) (.t 51), [], [], 0⟩ :: 
  ⟨(some 53), none, .mv (.t 7), [], [], 0⟩ :: 
  ⟨(some 54), none, .bin .shr (.t 53) (.c (.u64 6)), [], [], 0⟩ :: 
  ⟨(some 55), none, .bin .xor (.t 52) (.t 54), [], [], 0⟩ :: 
  ⟨(some 9), none, .mv (.t 55), [], [], 0⟩ :: []) false [5, 3, 8, 9, 2])
 (.region 13 (
  ⟨(some 56), none, .mv (.t 5), [], [], 0⟩ :: 
  ⟨(some 57), none, .mv (.t 5), [], [], 0⟩ :: 
  ⟨(some 58), none, .bin .sub (.t 57) (.c (.n 16)), [1], [], 2⟩ :: 
  ⟨(some 59), none, .idxA 80 1 (.t 3) (.t 58), [2], [], 6⟩ :: 
  ⟨(some 60), none, .load none (.t 59), [3], [], 14⟩ :: 
  ⟨(some 61), none, .mv (.t 8), [], [], 0⟩ :: 
  ⟨(some 62), none, .bin .add (.t 60) (.t 61), [4, 5], [], 62⟩ :: 
  ⟨(some 63), none, .mv (.t 5), [], [], 0⟩ :: 
  ⟨(some 64), none, .bin .sub (.t 63) (.c (.n 7)), [7], [], 128⟩ :: 
  ⟨(some 65), none, .idxA 80 1 (.t 3) (.t 64), [8], [], 384⟩ :: 
  ⟨(some 66), none, .load none (.t 65), [9], [], 896⟩ :: 
  ⟨(some 67), none, .bin .add (.t 62) (.t 66), [6, 10], [], 2046⟩ :: 
  ⟨(some 68), none, .mv (.t 9), [], [], 0⟩ :: 
  ⟨(some 69), none, .bin .add (.t 67) (.t 68), [11, 12], [], 8190⟩ :: 
  ⟨(some 70), none, .idxA 80 1 (.t 3) (.t 56), (0 :: 0 :: 1 :: 2 :: 3 :: 4 :: 5 :: 6 :: 7 :: 8 :: 9 :: 10 :: 11 :: 12 :: 13 :: []), [], 16383⟩ :: 
  ⟨none, none, .store none (.t 70) (.t 69), (14 :: 13 :: 0 :: 1 :: 2 :: 3 :: 4 :: 5 :: 6 :: 7 :: 8 :: 9 :: 10 :: 11 :: 12 :: 13 :: []), [], 32767⟩ :: []) true [5, 3, 2])))))
 (.region 9 [
  ⟨(some 30), none, .mv (.t 5), [], [], 0⟩, 
  ⟨(some 31), none, .bin .add (.t 30) (.c (.n 1)), [], [], 0⟩, 
  ⟨(some 5), none, .mv (.t 31), [], [], 0⟩] false [5, 3, 2]))))))
 (.seq (.region 14 [
  ⟨(some 71), none, .load (some 80) (.t 3), [], [], 0⟩, 
  ⟨none, none, .store (some 80) (.t 2) (.t 71), [], [], 0⟩] false [2])
 (.ret)))))
def rs37 : List (Nat × Option (Option Nat)) := [(2, (some (some 80)))]

/-- math/bits.RotateLeft64 -/
def mc38 : MC := .seq (.region 0 [
  ⟨(some 4), none, .mv (.c (.u64 0)), [], [], 0⟩] false [1, 0])
 (.seq (.region 1 [
  ⟨(some 6), none, .mv (.t 1), [], [], 0⟩, 
  ⟨(some 7), none, .conv .u64 (.t 6), [], [], 0⟩, 
  ⟨(some 8), none, .bin .and (.t 7) (.c (.u64 63)), [], [], 0⟩, 
  ⟨(some 5), none, .mv (.t 8), [], [], 0⟩] false [0, 5])
 (.seq (.region 2 (
  ⟨(some 9), none, .mv (.t 0), [], [], 0⟩ :: 
  ⟨(some 10), none, .mv (.t 5), [], [], 0⟩ :: 
  ⟨(some 11), none, .bin .shl (.t 9) (.t 10), [], [], 0⟩ :: 
  ⟨(some 12), none, .mv (.t 0), [], [], 0⟩ :: 
  ⟨(some 13), none, .mv (.t 5), [], [], 0⟩ :: 
  ⟨(some 14), none, .bin .sub (.c (.u64 64)) (.t 13), [], [], 0⟩ :: 
  ⟨(some 15), none, .bin .shr (.t 12) (.t 14), [], [], 0⟩ :: 
  ⟨(some 16), none, .bin .or (.t 11) (.t 15), [], [], 0⟩ :: 
  ⟨(some 4), none, .mv (.t 16), [], [], 0⟩ :: []) false [4])
 (.ret)))
def rs38 : List (Nat × Option (Option Nat)) := [(4, none)]

/-- slices.Concat[[]byte,byte] -/
def mc39 : MC := .seq (.region 0 [
  ⟨(some 2), none, .mv (.c .nil), [], [], 0⟩] false [0])
 (.seq (.region 1 [
  ⟨(some 3), none, .mv (.c (.n 0)), [], [], 0⟩] false [0, 3])
 (.seq (.seq (.region 2 [
  ⟨(some 9), none, .mv (.t 0), [], [], 0⟩, 
  ⟨(some 10), none, .lenS (.t 9), [], [], 0⟩, 
  ⟨(some 11), none, .mv (.c (.n 0)), [], [], 0⟩] false [11, 10, 9, 3, 0])
 (.block 0 (.loop (.seq (.region 3 [
  ⟨(some 12), none, .bin .lss (.t 11) (.t 10), [], [], 0⟩] false (12 :: 9 :: 11 :: 3 :: 10 :: 0 :: []))
 (.seq (.cond (.t 12)
 (.skip)
 (.exit 0))
 (.seq (.block 1 (.seq (.region 4 [
  ⟨(some 13), none, .idxS 1 (.t 9) (.t 11), [], [], 0⟩, 
  ⟨(some 14), none, .load none (.t 13), [], [], 0⟩, 
  ⟨(some 5), none, .mv (.t 14), [], [], 0⟩] false (3 :: 5 :: 11 :: 10 :: 9 :: 0 :: []))
 (.seq (.region 5 [
  ⟨(some 15), none, .mv (.t 3), [], [], 0⟩, 
  ⟨(some 16), none, .mv (.t 5), [], [], 0⟩, 
  ⟨(some 17), none, .lenS (.t 16), [], [], 0⟩, 
  ⟨(some 18), none, .bin .add (.t 15) (.t 17), [], [], 0⟩, 
  ⟨(some 3), none, .mv (.t 18), [], [], 0⟩] false [3, 11, 10, 9, 0])
 (.seq (.region 6 [
  ⟨(some 19), none, .mv (.t 3), [], [], 0⟩, 
  ⟨(some 20), none, .bin .lss (.t 19) (.c (.n 0)), [], [], 0⟩] false (20 :: 11 :: 10 :: 9 :: 3 :: 0 :: []))
 (.cond (.t 20)
 (.region 7 [
  ⟨(some 21), none, .bad, [], [], 0⟩, 
  ⟨none, none, .bad, [], [], 0⟩] false [11, 10, 9, 3, 0])
 (.skip))))))
 (.region 8 [
  ⟨(some 22), none, .bin .add (.t 11) (.c (.n 1)), [], [], 0⟩, 
  ⟨(some 11), none, .mv (.t 22), [], [], 0⟩] false [11, 10, 9, 3, 0])))))))
 (.seq (.region 9 [
  ⟨(some 23), none, .mv (.t 3), [], [], 0⟩, 
  ⟨(some 24), none, .call false 41 [((.c .nil), none), ((.t 23), none)], [], [], 0⟩, 
  ⟨(some 6), none, .mv (.t 24), [], [], 0⟩] false [0, 6])
 (.seq (.seq (.region 10 [
  ⟨(some 25), none, .mv (.t 0), [], [], 0⟩, 
  ⟨(some 26), none, .lenS (.t 25), [], [], 0⟩, 
  ⟨(some 27), none, .mv (.c (.n 0)), [], [], 0⟩] false [27, 26, 25, 6])
 (.block 2 (.loop (.seq (.region 11 [
  ⟨(some 28), none, .bin .lss (.t 27) (.t 26), [], [], 0⟩] false [28, 25, 27, 6, 26])
 (.seq (.cond (.t 28)
 (.skip)
 (.exit 2))
 (.seq (.block 3 (.seq (.region 12 [
  ⟨(some 29), none, .idxS 1 (.t 25) (.t 27), [], [], 0⟩, 
  ⟨(some 30), none, .load none (.t 29), [], [], 0⟩, 
  ⟨(some 8), none, .mv (.t 30), [], [], 0⟩] false [6, 8, 27, 26, 25])
 (.region 13 [
  ⟨(some 31), none, .mv (.t 6), [], [], 0⟩, 
  ⟨(some 32), none, .mv (.t 8), [], [], 0⟩, 
  ⟨(some 33), none, .app .k8 [(.u8 0)] 1 (.t 31) (.t 32), [], [], 0⟩, 
  ⟨(some 6), none, .mv (.t 33), [], [], 0⟩] false [27, 26, 25, 6])))
 (.region 14 [
  ⟨(some 34), none, .bin .add (.t 27) (.c (.n 1)), [], [], 0⟩, 
  ⟨(some 27), none, .mv (.t 34), [], [], 0⟩] false [27, 26, 25, 6])))))))
 (.seq (.region 15 [
  ⟨(some 35), none, .mv (.t 6), [], [], 0⟩, 
  ⟨(some 2), none, .mv (.t 35), [], [], 0⟩] false [2])
 (.ret))))))
def rs39 : List (Nat × Option (Option Nat)) := [(2, none)]

/-- slices.Clone[[]byte,byte] -/
def mc40 : MC := .seq (.region 0 [
  ⟨(some 2), none, .mv (.c .nil), [], [], 0⟩] false [0])
 (.seq (.seq (.region 1 [
  ⟨(some 3), none, .mv (.t 0), [], [], 0⟩, 
  ⟨(some 4), none, .binN (.t 3) (.c .nil), [], [], 0⟩] false [4, 0])
 (.cond (.t 4)
 (.seq (.region 2 [
  ⟨(some 2), none, .mv (.c .nil), [], [], 0⟩] false [2])
 (.ret))
 (.skip)))
 (.seq (.region 3 [
  ⟨(some 5), none, .bsl .k8 [], [], [], 0⟩, 
  ⟨(some 6), none, .mv (.t 0), [], [], 0⟩, 
  ⟨(some 7), none, .app .k8 [(.u8 0)] 1 (.t 5) (.t 6), [], [], 0⟩, 
  ⟨(some 2), none, .mv (.t 7), [], [], 0⟩] false [2])
 (.ret)))
def rs40 : List (Nat × Option (Option Nat)) := [(2, none)]

/-- slices.Grow[[]byte,byte] -/
def mc41 : MC := .seq (.region 0 [
  ⟨(some 4), none, .mv (.c .nil), [], [], 0⟩] false [1, 0])
 (.seq (.seq (.region 1 [
  ⟨(some 5), none, .mv (.t 1), [], [], 0⟩, 
  ⟨(some 6), none, .bin .lss (.t 5) (.c (.n 0)), [], [], 0⟩] false [6, 1, 0])
 (.cond (.t 6)
 (.region 2 [
  ⟨(some 7), none, .bad, [], [], 0⟩, 
  ⟨none, none, .bad, [], [], 0⟩] false [1, 0])
 (.skip)))
 (.seq (.seq (.region 3 (
  ⟨(some 8), none, .mv (.t 1), [], [], 0⟩ :: 
  ⟨(some 9), none, .mv (.t 0), [], [], 0⟩ :: 
  ⟨(some 10), none, .capn (.t 9), [], [], 0⟩ :: 
  ⟨(some 11), none, .mv (.t 0), [], [], 0⟩ :: 
  ⟨(some 12), none, .lenS (.t 11), [], [], 0⟩ :: 
  ⟨(some 13), none, .bin .sub (.t 10) (.t 12), [], [], 0⟩ :: 
  ⟨(some 14), none, .bin .sub (.t 8) (.t 13), [], [], 0⟩ :: 
  ⟨(some 1), none, .mv (.t 14), [], [], 0⟩ :: []) false [1, 0])
 (.seq (.region 4 [
  ⟨(some 15), none, .mv (.t 1), [], [], 0⟩, 
  ⟨(some 16), none, .bin .gtr (.t 15) (.c (.n 0)), [], [], 0⟩] false [16, 0, 1])
 (.cond (.t 16)
 (.region 5 (
  ⟨(some 17), none, .mv (.t 0), [], [], 0⟩ :: 
  ⟨(some 18), none, .mv (.t 0), [], [], 0⟩ :: 
  ⟨(some 19), none, .capn (.t 18), [], [], 0⟩ :: 
  ⟨(some 20), none, .slcS 1 (.t 17) none (some (.t 19)), [], [], 0⟩ :: 
  ⟨(some 21), none, .mv (.t 1), [], [], 0⟩ :: 
  ⟨(some 22), none, .appz .k8 [(.u8 0)] 1 (.t 20) (.t 21), [], [], 0⟩ :: 
  ⟨(some 23), none, .mv (.t 0), [], [], 0⟩ :: 
  ⟨(some 24), none, .lenS (.t 23), [], [], 0⟩ :: 
  ⟨(some 25), none, .slcS 1 (.t 22) none (some (.t 24)), [], [], 0⟩ :: 
  ⟨(some 0), none, .mv (.t 25), [], [], 0⟩ :: []) false [0])
 (.skip))))
 (.seq (.region 6 [
  ⟨(some 26), none, .mv (.t 0), [], [], 0⟩, 
  ⟨(some 4), none, .mv (.t 26), [], [], 0⟩] false [4])
 (.ret))))
def rs41 : List (Nat × Option (Option Nat)) := [(4, none)]


theorem ok3 : fnOk Go.Proofs.Try.prog 3 mc3 rs3 = true := by decide +kernel
theorem ok4 : fnOk Go.Proofs.Try.prog 4 mc4 rs4 = true := by decide +kernel
theorem ok5 : fnOk Go.Proofs.Try.prog 5 mc5 rs5 = true := by decide +kernel
theorem ok6 : fnOk Go.Proofs.Try.prog 6 mc6 rs6 = true := by decide +kernel
theorem ok7 : fnOk Go.Proofs.Try.prog 7 mc7 rs7 = true := by decide +kernel
theorem ok8 : fnOk Go.Proofs.Try.prog 8 mc8 rs8 = true := by decide +kernel
theorem ok9 : fnOk Go.Proofs.Try.prog 9 mc9 rs9 = true := by decide +kernel
theorem ok10 : fnOk Go.Proofs.Try.prog 10 mc10 rs10 = true := by decide +kernel
theorem ok11 : fnOk Go.Proofs.Try.prog 11 mc11 rs11 = true := by decide +kernel
theorem ok12 : fnOk Go.Proofs.Try.prog 12 mc12 rs12 = true := by decide +kernel
theorem ok13 : fnOk Go.Proofs.Try.prog 13 mc13 rs13 = true := by decide +kernel
theorem ok14 : fnOk Go.Proofs.Try.prog 14 mc14 rs14 = true := by decide +kernel
theorem ok15 : fnOk Go.Proofs.Try.prog 15 mc15 rs15 = true := by decide +kernel
theorem ok16 : fnOk Go.Proofs.Try.prog 16 mc16 rs16 = true := by decide +kernel
theorem ok17 : fnOk Go.Proofs.Try.prog 17 mc17 rs17 = true := by decide +kernel
theorem ok18 : fnOk Go.Proofs.Try.prog 18 mc18 rs18 = true := by decide +kernel
theorem ok19 : fnOk Go.Proofs.Try.prog 19 mc19 rs19 = true := by decide +kernel
theorem ok20 : fnOk Go.Proofs.Try.prog 20 mc20 rs20 = true := by decide +kernel
theorem ok21 : fnOk Go.Proofs.Try.prog 21 mc21 rs21 = true := by decide +kernel
theorem ok22 : fnOk Go.Proofs.Try.prog 22 mc22 rs22 = true := by decide +kernel
theorem ok23 : fnOk Go.Proofs.Try.prog 23 mc23 rs23 = true := by decide +kernel
theorem ok24 : fnOk Go.Proofs.Try.prog 24 mc24 rs24 = true := by decide +kernel
theorem ok25 : fnOk Go.Proofs.Try.prog 25 mc25 rs25 = true := by decide +kernel
theorem ok26 : fnOk Go.Proofs.Try.prog 26 mc26 rs26 = true := by decide +kernel
theorem ok27 : fnOk Go.Proofs.Try.prog 27 mc27 rs27 = true := by decide +kernel
theorem ok28 : fnOk Go.Proofs.Try.prog 28 mc28 rs28 = true := by decide +kernel
theorem ok29 : fnOk Go.Proofs.Try.prog 29 mc29 rs29 = true := by decide +kernel
theorem ok30 : fnOk Go.Proofs.Try.prog 30 mc30 rs30 = true := by decide +kernel
theorem ok31 : fnOk Go.Proofs.Try.prog 31 mc31 rs31 = true := by decide +kernel
theorem ok32 : fnOk Go.Proofs.Try.prog 32 mc32 rs32 = true := by decide +kernel
theorem ok33 : fnOk Go.Proofs.Try.prog 33 mc33 rs33 = true := by decide +kernel
theorem ok34 : fnOk Go.Proofs.Try.prog 34 mc34 rs34 = true := by decide +kernel
theorem ok35 : fnOk Go.Proofs.Try.prog 35 mc35 rs35 = true := by decide +kernel
theorem ok36 : fnOk Go.Proofs.Try.prog 36 mc36 rs36 = true := by decide +kernel
theorem ok37 : fnOk Go.Proofs.Try.prog 37 mc37 rs37 = true := by decide +kernel
theorem ok38 : fnOk Go.Proofs.Try.prog 38 mc38 rs38 = true := by decide +kernel
theorem ok39 : fnOk Go.Proofs.Try.prog 39 mc39 rs39 = true := by decide +kernel
theorem ok40 : fnOk Go.Proofs.Try.prog 40 mc40 rs40 = true := by decide +kernel
theorem ok41 : fnOk Go.Proofs.Try.prog 41 mc41 rs41 = true := by decide +kernel
end Go.Vc.H
