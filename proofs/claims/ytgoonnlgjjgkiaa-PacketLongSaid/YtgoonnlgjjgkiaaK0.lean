/- The compiled forms of the functions that the statements reach: each is held against the program by the kernel. -/
import Derived.Test.YtgoonnlgjjgkiaaVc
import Derived.Test.YtgoonnlgjjgkiaaProg
set_option linter.unusedVariables false
set_option linter.unusedSimpArgs false
set_option linter.unusedSectionVars false
/-! P0 -/
set_option linter.unusedVariables false
namespace Go.Vc.K
open Go Go.Vc
/-- towpath/towpathlaw13.PacketReads -/
def mc4 : MC := .seq (.region 0 [
  ⟨(some 6), none, .box (.t 1), [], [], 0⟩, 
  ⟨(some 10), none, .mv (.c (.bool false)), [], [], 0⟩] false (0 :: 6 :: 29 :: 30 :: 31 :: 32 :: 2 :: 4 :: 3 :: 106 :: 107 :: 108 :: 109 :: 112 :: 114 :: 113 :: 115 :: 116 :: 119 :: 120 :: 121 :: []))
 (.seq (.seq (.region 1 [
  ⟨(some 23), none, .call false 12 [], [], [], 0⟩, 
  ⟨(some 24), none, .un .not (.t 23), [], [], 0⟩] false (24 :: 0 :: 6 :: 29 :: 30 :: 31 :: 32 :: 2 :: 4 :: 3 :: 106 :: 107 :: 108 :: 109 :: 112 :: 114 :: 113 :: 115 :: 116 :: 119 :: 120 :: 121 :: []))
 (.cond (.t 24)
 (.seq (.region 2 [
  ⟨(some 10), none, .mv (.c (.bool false)), [], [], 0⟩] false [10])
 (.ret))
 (.skip)))
 (.seq (.seq (.region 3 (
  ⟨(some 25), none, .mv (.t 0), [], [], 0⟩ :: 
  ⟨(some 26), none, .lenS (.t 25), [], [], 0⟩ :: 
  ⟨(some 27), none, .bin .gtr (.t 26) (.c (.n 200)), [], [], 0⟩ :: 
  ⟨(some 28), none, .mv (.t 27), [], [], 0⟩ :: 
  ⟨(some 29), (some (28, false)), .fld 7 (.t 6), [], [], 0⟩ :: 
  ⟨(some 30), (some (28, false)), .load none (.t 29), [], [], 0⟩ :: 
  ⟨(some 31), (some (28, false)), .lenS (.t 30), [], [], 0⟩ :: 
  ⟨(some 32), (some (28, false)), .bin .gtr (.t 31) (.c (.n 100)), [], [], 0⟩ :: 
  ⟨(some 33), none, .pick (.t 28) (.c (.bool true)) (.t 32), [], [], 0⟩ :: []) false (33 :: 6 :: 2 :: 4 :: 3 :: 0 :: 106 :: 107 :: 108 :: 109 :: 112 :: 114 :: 113 :: 115 :: 116 :: 119 :: 120 :: 121 :: []))
 (.cond (.t 33)
 (.seq (.region 4 [
  ⟨(some 10), none, .mv (.c (.bool true)), [], [], 0⟩] false [10])
 (.ret))
 (.skip)))
 (.seq (.region 5 [
  ⟨(some 34), none, .load (some 8) (.t 6), [], [], 0⟩, 
  ⟨(some 35), none, .call false 20 [((.t 34), none)], [], [], 0⟩, 
  ⟨(some 11), none, .mv (.t 35), [], [], 0⟩] false (11 :: 2 :: 4 :: 3 :: 0 :: 106 :: 107 :: 108 :: 109 :: 112 :: 114 :: 113 :: 115 :: 116 :: 119 :: 120 :: 121 :: []))
 (.seq (.seq (.region 6 [
  ⟨(some 36), none, .mv (.t 11), [], [], 0⟩, 
  ⟨(some 37), none, .lenS (.t 36), [], [], 0⟩, 
  ⟨(some 38), none, .bin .eql (.t 37) (.c (.n 0)), [], [], 0⟩] false (38 :: 2 :: 11 :: 4 :: 3 :: 0 :: 106 :: 107 :: 108 :: 109 :: 112 :: 114 :: 113 :: 115 :: 116 :: 119 :: 120 :: 121 :: []))
 (.cond (.t 38)
 (.seq (.region 7 [
  ⟨(some 10), none, .mv (.c (.bool true)), [], [], 0⟩] false [10])
 (.ret))
 (.skip)))
 (.seq (.region 8 (
  ⟨(some 39), none, .mv (.t 2), [], [], 0⟩ :: 
  ⟨(some 40), none, .conv .i64 (.t 39), [], [], 0⟩ :: 
  ⟨(some 41), none, .mv (.t 11), [], [], 0⟩ :: 
  ⟨(some 42), none, .lenS (.t 41), [], [], 0⟩ :: 
  ⟨(some 43), none, .bin .rem (.t 40) (.t 42), [], [], 0⟩ :: 
  ⟨(some 12), none, .mv (.t 43), [], [], 0⟩ :: []) false (4 :: 11 :: 12 :: 3 :: 0 :: 106 :: 107 :: 108 :: 109 :: 112 :: 114 :: 113 :: 115 :: 116 :: 119 :: 120 :: 121 :: []))
 (.seq (.seq (.region 9 [
  ⟨(some 44), none, .mv (.t 4), [], [], 0⟩, 
  ⟨(some 45), none, .bin .rem (.t 44) (.c (.u8 4)), [], [], 0⟩] false (45 :: 11 :: 12 :: 3 :: 0 :: 106 :: 107 :: 108 :: 109 :: 112 :: 114 :: 113 :: 115 :: 116 :: 119 :: 120 :: 121 :: []))
 (.block 0 (.seq (.region 11 [
  ⟨(some 55), none, .bin .eql (.t 45) (.c (.u8 0)), [], [], 0⟩, 
  ⟨(some 54), none, .mv (.t 55), [], [], 0⟩] false (54 :: 11 :: 12 :: 3 :: 0 :: 106 :: 107 :: 108 :: 109 :: 112 :: 114 :: 113 :: 115 :: 116 :: 119 :: 120 :: 121 :: 45 :: []))
 (.cond (.t 54)
 (.region 12 (
  ⟨(some 56), none, .mv (.t 11), [], [], 0⟩ :: 
  ⟨(some 57), none, .mv (.t 12), [], [], 0⟩ :: 
  ⟨(some 58), none, .idxS 1 (.t 56) (.t 57), [], [], 0⟩ :: 
  ⟨(some 59), none, .load none (.t 58), [], [], 0⟩ :: 
  ⟨(some 60), none, .mv (.t 3), [], [], 0⟩ :: 
  ⟨(some 61), none, .bin .xor (.t 59) (.t 60), [], [], 0⟩ :: 
  ⟨(some 62), none, .idxS 1 (.t 56) (.t 57), [], [], 0⟩ :: 
  ⟨none, none, .store none (.t 62) (.t 61), [], [], 0⟩ :: []) false (0 :: 11 :: 106 :: 107 :: 108 :: 109 :: 112 :: 114 :: 113 :: 115 :: 116 :: 119 :: 120 :: 121 :: []))
 (.seq (.region 13 [
  ⟨(some 64), none, .bin .eql (.t 45) (.c (.u8 1)), [], [], 0⟩, 
  ⟨(some 63), none, .mv (.t 64), [], [], 0⟩] false (63 :: 11 :: 12 :: 0 :: 106 :: 107 :: 108 :: 109 :: 112 :: 114 :: 113 :: 115 :: 116 :: 119 :: 120 :: 121 :: 45 :: 3 :: []))
 (.cond (.t 63)
 (.region 14 [
  ⟨(some 65), none, .mv (.t 11), [], [], 0⟩, 
  ⟨(some 66), none, .mv (.t 12), [], [], 0⟩, 
  ⟨(some 67), none, .slcS 1 (.t 65) none (some (.t 66)), [], [], 0⟩, 
  ⟨(some 11), none, .mv (.t 67), [], [], 0⟩] false (0 :: 11 :: 106 :: 107 :: 108 :: 109 :: 112 :: 114 :: 113 :: 115 :: 116 :: 119 :: 120 :: 121 :: []))
 (.seq (.region 15 [
  ⟨(some 69), none, .bin .eql (.t 45) (.c (.u8 2)), [], [], 0⟩, 
  ⟨(some 68), none, .mv (.t 69), [], [], 0⟩] false (68 :: 11 :: 3 :: 0 :: 106 :: 107 :: 108 :: 109 :: 112 :: 114 :: 113 :: 115 :: 116 :: 119 :: 120 :: 121 :: 12 :: []))
 (.cond (.t 68)
 (.region 16 [
  ⟨(some 70), none, .mv (.t 11), [], [], 0⟩, 
  ⟨(some 71), none, .mv (.t 3), [], [], 0⟩, 
  ⟨(some 72), none, .bsl .k8 [(.t 71)], [], [], 0⟩, 
  ⟨(some 73), none, .app .k8 [(.u8 0)] 1 (.t 70) (.t 72), [], [], 0⟩, 
  ⟨(some 11), none, .mv (.t 73), [], [], 0⟩] false (0 :: 11 :: 106 :: 107 :: 108 :: 109 :: 112 :: 114 :: 113 :: 115 :: 116 :: 119 :: 120 :: 121 :: []))
 (.region 10 (
  ⟨(some 46), none, .mv (.t 11), [], [], 0⟩ :: 
  ⟨(some 47), none, .mv (.t 12), [], [], 0⟩ :: 
  ⟨(some 48), none, .bin .rem (.t 47) (.c (.n 20)), [], [], 0⟩ :: 
  ⟨(some 49), none, .idxS 1 (.t 46) (.t 48), [], [], 0⟩ :: 
  ⟨(some 50), none, .load none (.t 49), [], [], 0⟩ :: 
  ⟨(some 51), none, .mv (.t 3), [], [], 0⟩ :: 
  ⟨(some 52), none, .bin .xor (.t 50) (.t 51), [], [], 0⟩ :: 
  ⟨(some 53), none, .idxS 1 (.t 46) (.t 48), [], [], 0⟩ :: 
  ⟨none, none, .store none (.t 53) (.t 52), [], [], 0⟩ :: []) false (0 :: 11 :: 106 :: 107 :: 108 :: 109 :: 112 :: 114 :: 113 :: 115 :: 116 :: 119 :: 120 :: 121 :: []))))))))))
 (.seq (.seq (.region 17 [
  ⟨(some 74), none, .mv (.t 0), [], [], 0⟩, 
  ⟨(some 75), none, .mv (.t 11), [], [], 0⟩, 
  ⟨(some 76), none, .bsl .kg [(.t 74), (.t 75)], [], [], 0⟩, 
  ⟨(some 77), none, .lenS (.t 76), [], [], 0⟩, 
  ⟨(some 78), none, .mv (.c (.n 0)), [], [], 0⟩] false (78 :: 77 :: 76 :: 106 :: 107 :: 108 :: 109 :: 112 :: 114 :: 113 :: 115 :: 116 :: 119 :: 120 :: 121 :: []))
 (.block 1 (.loop (.seq (.region 18 [
  ⟨(some 79), none, .bin .lss (.t 78) (.t 77), [], [], 0⟩] false (79 :: 76 :: 78 :: 106 :: 107 :: 108 :: 109 :: 112 :: 114 :: 113 :: 115 :: 116 :: 119 :: 120 :: 121 :: 77 :: []))
 (.seq (.cond (.t 79)
 (.skip)
 (.exit 1))
 (.seq (.block 2 (.seq (.region 19 [
  ⟨(some 80), none, .idxS 1 (.t 76) (.t 78), [], [], 0⟩, 
  ⟨(some 81), none, .load none (.t 80), [], [], 0⟩, 
  ⟨(some 14), none, .mv (.t 81), [], [], 0⟩] false (14 :: 106 :: 107 :: 108 :: 109 :: 112 :: 114 :: 113 :: 115 :: 116 :: 119 :: 120 :: 121 :: 78 :: 77 :: 76 :: []))
 (.seq (.region 20 (
  ⟨(some 83), none, .mv (.t 14), [], [], 0⟩ :: 
  ⟨(some 84), none, .call false 16 [((.t 83), (some .k8))], [], [], 0⟩ :: 
  ⟨(some 82), none, .mv (.t 84), [], [], 0⟩ :: 
  ⟨(some 85), none, .ext 0 (.t 82), [], [], 0⟩ :: 
  ⟨(some 86), none, .ext 1 (.t 82), [], [], 0⟩ :: 
  ⟨(some 15), none, .alloc (.gen ((.bool false) :: (.u8 0) :: (.u32 0) :: (.u16 0) :: (.u16 0) :: (.u8 0) :: (.u8 0) :: (.bool false) :: (.u64 0) :: (.u64 0) :: (.bool false) :: (.u64 0) :: (.u64 0) :: .nil :: [])), [], [], 0⟩ :: 
  ⟨none, none, .store (some 14) (.t 15) (.t 85), [], [], 0⟩ :: 
  ⟨(some 16), none, .mv (.t 86), [], [], 0⟩ :: []) false (14 :: 16 :: 15 :: 106 :: 107 :: 108 :: 109 :: 112 :: 114 :: 113 :: 115 :: 116 :: 119 :: 120 :: 121 :: 78 :: 77 :: 76 :: []))
 (.seq (.region 21 (
  ⟨(some 88), none, .mv (.t 14), [], [], 0⟩ :: 
  ⟨(some 89), none, .call false 21 [((.t 88), (some .k8))], [], [], 0⟩ :: 
  ⟨(some 87), none, .mv (.t 89), [], [], 0⟩ :: 
  ⟨(some 90), none, .ext 0 (.t 87), [], [], 0⟩ :: 
  ⟨(some 91), none, .ext 1 (.t 87), [], [], 0⟩ :: 
  ⟨(some 17), none, .alloc (.gen ((.bool false) :: (.u8 0) :: (.u32 0) :: (.u16 0) :: (.u16 0) :: (.u8 0) :: (.u8 0) :: (.bool false) :: (.u64 0) :: (.u64 0) :: (.bool false) :: (.u64 0) :: (.u64 0) :: .nil :: [])), [], [], 0⟩ :: 
  ⟨none, none, .store (some 14) (.t 17) (.t 90), [], [], 0⟩ :: 
  ⟨(some 18), none, .mv (.t 91), [], [], 0⟩ :: []) false (14 :: 16 :: 18 :: 15 :: 17 :: 106 :: 107 :: 108 :: 109 :: 112 :: 114 :: 113 :: 115 :: 116 :: 119 :: 120 :: 121 :: 78 :: 77 :: 76 :: []))
 (.seq (.region 22 (
  ⟨(some 93), none, .mv (.t 14), [], [], 0⟩ :: 
  ⟨(some 94), none, .call false 17 [((.t 93), (some .k8))], [], [], 0⟩ :: 
  ⟨(some 92), none, .mv (.t 94), [], [], 0⟩ :: 
  ⟨(some 95), none, .ext 0 (.t 92), [], [], 0⟩ :: 
  ⟨(some 96), none, .ext 1 (.t 92), [], [], 0⟩ :: 
  ⟨(some 19), none, .mv (.t 95), [], [], 0⟩ :: 
  ⟨(some 20), none, .mv (.t 96), [], [], 0⟩ :: []) false (14 :: 16 :: 18 :: 15 :: 17 :: 106 :: 107 :: 108 :: 109 :: 19 :: 112 :: 114 :: 113 :: 115 :: 116 :: 20 :: 119 :: 120 :: 121 :: 78 :: 77 :: 76 :: []))
 (.seq (.region 23 (
  ⟨(some 98), none, .mv (.t 14), [], [], 0⟩ :: 
  ⟨(some 99), none, .call false 18 [((.t 98), (some .k8))], [], [], 0⟩ :: 
  ⟨(some 97), none, .mv (.t 99), [], [], 0⟩ :: 
  ⟨(some 100), none, .ext 0 (.t 97), [], [], 0⟩ :: 
  ⟨(some 101), none, .ext 1 (.t 97), [], [], 0⟩ :: 
  ⟨(some 21), none, .mv (.t 100), [], [], 0⟩ :: 
  ⟨(some 22), none, .mv (.t 101), [], [], 0⟩ :: []) false (16 :: 18 :: 15 :: 17 :: 106 :: 107 :: 108 :: 109 :: 19 :: 112 :: 21 :: 114 :: 113 :: 115 :: 116 :: 20 :: 22 :: 119 :: 120 :: 121 :: 78 :: 77 :: 76 :: []))
 (.seq (.region 24 (
  ⟨(some 102), none, .mv (.t 16), [], [], 0⟩ :: 
  ⟨(some 103), none, .mv (.t 18), [], [], 0⟩ :: 
  ⟨(some 104), none, .bin .neq (.t 102) (.t 103), [], [], 0⟩ :: 
  ⟨(some 105), none, .mv (.t 104), [], [], 0⟩ :: 
  ⟨(some 106), (some (105, false)), .load (some 14) (.t 15), [], [], 0⟩ :: 
  ⟨(some 107), (some (105, false)), .load (some 14) (.t 17), [], [], 0⟩ :: 
  ⟨(some 108), (some (105, false)), .call false 19 [((.t 106), none), ((.t 107), none)], [], [], 0⟩ :: 
  ⟨(some 109), (some (105, false)), .un .not (.t 108), [], [], 0⟩ :: 
  ⟨(some 110), none, .pick (.t 105) (.c (.bool true)) (.t 109), [], [], 0⟩ :: 
  ⟨(some 111), none, .mv (.t 110), [], [], 0⟩ :: 
  ⟨(some 112), (some (111, false)), .mv (.t 19), [], [], 0⟩ :: 
  ⟨(some 113), (some (111, false)), .b2s (.t 112), [], [], 0⟩ :: 
  ⟨(some 114), (some (111, false)), .mv (.t 21), [], [], 0⟩ :: 
  ⟨(some 115), (some (111, false)), .b2s (.t 114), [], [], 0⟩ :: 
  ⟨(some 116), (some (111, false)), .binS .neq (.t 113) (.t 115), [], [], 0⟩ :: 
  ⟨(some 117), none, .pick (.t 111) (.c (.bool true)) (.t 116), [], [], 0⟩ :: 
  ⟨(some 118), none, .mv (.t 117), [], [], 0⟩ :: 
  ⟨(some 119), (some (118, false)), .mv (.t 20), [], [], 0⟩ :: 
  ⟨(some 120), (some (118, false)), .mv (.t 22), [], [], 0⟩ :: 
  ⟨(some 121), (some (118, false)), .binB .neq (.t 119) (.t 120), [], [], 0⟩ :: 
  ⟨(some 122), none, .pick (.t 118) (.c (.bool true)) (.t 121), [], [], 0⟩ :: []) false (122 :: 78 :: 77 :: 76 :: 106 :: 107 :: 108 :: 109 :: 112 :: 114 :: 113 :: 115 :: 116 :: 119 :: 120 :: 121 :: []))
 (.cond (.t 122)
 (.seq (.region 25 [
  ⟨(some 10), none, .mv (.c (.bool false)), [], [], 0⟩] false [10])
 (.ret))
 (.skip)))))))))
 (.region 26 [
  ⟨(some 123), none, .bin .add (.t 78) (.c (.n 1)), [], [], 0⟩, 
  ⟨(some 78), none, .mv (.t 123), [], [], 0⟩] false (78 :: 77 :: 76 :: 106 :: 107 :: 108 :: 109 :: 112 :: 114 :: 113 :: 115 :: 116 :: 119 :: 120 :: 121 :: []))))))))
 (.seq (.region 27 [
  ⟨(some 10), none, .mv (.c (.bool true)), [], [], 0⟩] false [10])
 (.ret)))))))))
def rs4 : List (Nat × Option (Option Nat)) := [(10, none)]

/-- towpath/towpathlaw13.PacketSums -/
def mc5 : MC := .seq (.region 0 [
  ⟨(some 4), none, .mv (.c (.bool false)), [], [], 0⟩] false (0 :: 1 :: 24 :: 25 :: 27 :: 28 :: 26 :: 29 :: 30 :: 32 :: 31 :: 33 :: 34 :: []))
 (.seq (.seq (.region 1 [
  ⟨(some 6), none, .call false 12 [], [], [], 0⟩, 
  ⟨(some 7), none, .un .not (.t 6), [], [], 0⟩] false (7 :: 0 :: 1 :: 24 :: 25 :: 27 :: 28 :: 26 :: 29 :: 30 :: 32 :: 31 :: 33 :: 34 :: []))
 (.cond (.t 7)
 (.seq (.region 2 [
  ⟨(some 4), none, .mv (.c (.bool false)), [], [], 0⟩] false [4])
 (.ret))
 (.skip)))
 (.seq (.seq (.region 3 [
  ⟨(some 8), none, .mv (.t 0), [], [], 0⟩, 
  ⟨(some 9), none, .lenS (.t 8), [], [], 0⟩, 
  ⟨(some 10), none, .bin .gtr (.t 9) (.c (.n 300)), [], [], 0⟩] false (10 :: 1 :: 0 :: 24 :: 25 :: 27 :: 28 :: 26 :: 29 :: 30 :: 32 :: 31 :: 33 :: 34 :: []))
 (.cond (.t 10)
 (.seq (.region 4 [
  ⟨(some 4), none, .mv (.c (.bool true)), [], [], 0⟩] false [4])
 (.ret))
 (.skip)))
 (.seq (.region 5 (
  ⟨(some 11), none, .mv (.t 1), [], [], 0⟩ :: 
  ⟨(some 12), none, .conv .i64 (.t 11), [], [], 0⟩ :: 
  ⟨(some 13), none, .mv (.t 0), [], [], 0⟩ :: 
  ⟨(some 14), none, .lenS (.t 13), [], [], 0⟩ :: 
  ⟨(some 15), none, .bin .add (.t 14) (.c (.n 1)), [], [], 0⟩ :: 
  ⟨(some 16), none, .bin .rem (.t 12) (.t 15), [], [], 0⟩ :: 
  ⟨(some 5), none, .mv (.t 16), [], [], 0⟩ :: []) false (0 :: 5 :: 24 :: 25 :: 27 :: 28 :: 26 :: 29 :: 30 :: 32 :: 31 :: 33 :: 34 :: []))
 (.seq (.region 6 (
  ⟨(some 17), none, .mv (.t 0), [], [], 0⟩ :: 
  ⟨(some 18), none, .bsl .kg [(.t 17)], [0], [], 1⟩ :: 
  ⟨(some 19), none, .call false 22 [((.t 18), (some .kb))], [1], [], 3⟩ :: 
  ⟨(some 20), none, .mv (.t 0), [], [], 0⟩ :: 
  ⟨(some 21), none, .call false 23 [((.t 20), (some .k8))], [3, 2], [], 15⟩ :: 
  ⟨(some 22), none, .bin .eql (.t 19) (.t 21), [2, 4], [], 31⟩ :: 
  ⟨(some 23), none, .mv (.t 22), [5, 4], [], 63⟩ :: 
  ⟨(some 24), (some (23, true)), .mv (.t 0), [6], [], 127⟩ :: 
  ⟨(some 25), (some (23, true)), .mv (.t 5), [6], [], 127⟩ :: 
  ⟨(some 26), (some (23, true)), .slcS 1 (.t 24) none (some (.t 25)), [7, 8, 6], [], 511⟩ :: 
  ⟨(some 27), (some (23, true)), .mv (.t 0), [6], [], 127⟩ :: 
  ⟨(some 28), (some (23, true)), .mv (.t 5), [6], [], 127⟩ :: 
  ⟨(some 29), (some (23, true)), .slcS 1 (.t 27) (some (.t 28)) none, [10, 11, 6], [], 3199⟩ :: 
  ⟨(some 30), (some (23, true)), .bsl .kg [(.t 26), (.t 29)], [9, 12, 6], [], 8191⟩ :: 
  ⟨(some 31), (some (23, true)), .call false 22 [((.t 30), (some .kb))], [13, 6, 6], [], 16383⟩ :: 
  ⟨(some 32), (some (23, true)), .mv (.t 0), [6], [], 127⟩ :: 
  ⟨(some 33), (some (23, true)), .call false 23 [((.t 32), (some .k8))], [15, 14, 6], [], 65535⟩ :: 
  ⟨(some 34), (some (23, true)), .bin .eql (.t 31) (.t 33), [14, 16, 6], [], 131071⟩ :: 
  ⟨(some 35), none, .pick (.t 23) (.t 34) (.c (.bool false)), [6, 17], [], 262143⟩ :: 
  ⟨(some 4), none, .mv (.t 35), (18 :: 16 :: 0 :: 1 :: 2 :: 3 :: 4 :: 5 :: 6 :: 7 :: 8 :: 9 :: 10 :: 11 :: 12 :: 13 :: 14 :: 15 :: 16 :: 17 :: 18 :: []), [], 524287⟩ :: []) true [4])
 (.ret)))))
def rs5 : List (Nat × Option (Option Nat)) := [(4, none)]

/-- towpath/towpathlaw13.PacketHops -/
def mc6 : MC := .seq (.region 0 [
  ⟨(some 2), none, .box (.t 0), [], [], 0⟩, 
  ⟨(some 4), none, .mv (.c (.bool false)), [], [], 0⟩] false (2 :: 1 :: 56 :: 57 :: 58 :: 59 :: []))
 (.seq (.seq (.region 1 [
  ⟨(some 12), none, .call false 12 [], [], [], 0⟩, 
  ⟨(some 13), none, .un .not (.t 12), [], [], 0⟩] false (13 :: 2 :: 1 :: 56 :: 57 :: 58 :: 59 :: []))
 (.cond (.t 13)
 (.seq (.region 2 [
  ⟨(some 4), none, .mv (.c (.bool false)), [], [], 0⟩] false [4])
 (.ret))
 (.skip)))
 (.seq (.seq (.region 3 [
  ⟨(some 14), none, .fld 7 (.t 2), [], [], 0⟩, 
  ⟨(some 15), none, .load none (.t 14), [], [], 0⟩, 
  ⟨(some 16), none, .lenS (.t 15), [], [], 0⟩, 
  ⟨(some 17), none, .bin .gtr (.t 16) (.c (.n 100)), [], [], 0⟩] false (17 :: 2 :: 1 :: 56 :: 57 :: 58 :: 59 :: []))
 (.cond (.t 17)
 (.seq (.region 4 [
  ⟨(some 4), none, .mv (.c (.bool true)), [], [], 0⟩] false [4])
 (.ret))
 (.skip)))
 (.seq (.region 5 [
  ⟨(some 18), none, .load (some 8) (.t 2), [], [], 0⟩, 
  ⟨(some 19), none, .call false 20 [((.t 18), none)], [], [], 0⟩, 
  ⟨(some 5), none, .mv (.t 19), [], [], 0⟩] false (2 :: 1 :: 5 :: 56 :: 57 :: 58 :: 59 :: []))
 (.seq (.region 6 [
  ⟨(some 20), none, .load (some 8) (.t 2), [], [], 0⟩, 
  ⟨(some 21), none, .call false 13 [((.t 20), none)], [], [], 0⟩, 
  ⟨(some 6), none, .alloc (.gen ((.bool false) :: (.u8 0) :: (.u32 0) :: (.u16 0) :: (.u16 0) :: (.u8 0) :: (.u8 0) :: (.bool false) :: (.u64 0) :: (.u64 0) :: (.bool false) :: (.u64 0) :: (.u64 0) :: .nil :: [])), [], [], 0⟩, 
  ⟨none, none, .store (some 14) (.t 6) (.t 21), [], [], 0⟩] false (1 :: 5 :: 6 :: 56 :: 57 :: 58 :: 59 :: []))
 (.seq (.seq (.region 7 [
  ⟨(some 7), none, .mv (.c (.n 0)), [], [], 0⟩] false (7 :: 1 :: 5 :: 6 :: 56 :: 57 :: 58 :: 59 :: []))
 (.block 0 (.loop (.seq (.seq (.region 8 [
  ⟨(some 22), none, .mv (.t 7), [], [], 0⟩, 
  ⟨(some 23), none, .mv (.t 1), [], [], 0⟩, 
  ⟨(some 24), none, .bin .rem (.t 23) (.c (.u8 70)), [], [], 0⟩, 
  ⟨(some 25), none, .conv .i64 (.t 24), [], [], 0⟩, 
  ⟨(some 26), none, .bin .lss (.t 22) (.t 25), [], [], 0⟩] false (26 :: 5 :: 6 :: 56 :: 57 :: 58 :: 59 :: 7 :: 1 :: []))
 (.cond (.t 26)
 (.skip)
 (.exit 0)))
 (.seq (.block 1 (.seq (.region 10 (
  ⟨(some 30), none, .mv (.t 5), [], [], 0⟩ :: 
  ⟨(some 31), none, .call false 17 [((.t 30), (some .k8))], [], [], 0⟩ :: 
  ⟨(some 29), none, .mv (.t 31), [], [], 0⟩ :: 
  ⟨(some 32), none, .ext 0 (.t 29), [], [], 0⟩ :: 
  ⟨(some 33), none, .ext 1 (.t 29), [], [], 0⟩ :: 
  ⟨(some 8), none, .mv (.t 32), [], [], 0⟩ :: 
  ⟨(some 9), none, .mv (.t 33), [], [], 0⟩ :: []) false (9 :: 6 :: 8 :: 56 :: 57 :: 58 :: 59 :: 7 :: 1 :: []))
 (.seq (.seq (.region 11 [
  ⟨(some 34), none, .mv (.t 9), [], [], 0⟩, 
  ⟨(some 35), none, .fld 5 (.t 6), [], [], 0⟩, 
  ⟨(some 36), none, .load none (.t 35), [], [], 0⟩, 
  ⟨(some 37), none, .bin .geq (.t 36) (.c (.u8 2)), [], [], 0⟩, 
  ⟨(some 38), none, .binB .neq (.t 34) (.t 37), [], [], 0⟩] false (38 :: 9 :: 8 :: 6 :: 56 :: 57 :: 58 :: 59 :: 7 :: 1 :: []))
 (.cond (.t 38)
 (.seq (.region 12 [
  ⟨(some 4), none, .mv (.c (.bool false)), [], [], 0⟩] false [4])
 (.ret))
 (.skip)))
 (.seq (.seq (.region 13 [
  ⟨(some 39), none, .mv (.t 9), [], [], 0⟩, 
  ⟨(some 40), none, .un .not (.t 39), [], [], 0⟩] false (40 :: 8 :: 6 :: 56 :: 57 :: 58 :: 59 :: 7 :: 1 :: []))
 (.cond (.t 40)
 (.seq (.region 14 [
  ⟨(some 41), none, .mv (.t 8), [], [], 0⟩, 
  ⟨(some 42), none, .lenS (.t 41), [], [], 0⟩, 
  ⟨(some 43), none, .bin .eql (.t 42) (.c (.n 0)), [], [], 0⟩, 
  ⟨(some 4), none, .mv (.t 43), [], [], 0⟩] false [4])
 (.ret))
 (.skip)))
 (.seq (.region 15 [
  ⟨(some 44), none, .fld 5 (.t 6), [], [], 0⟩, 
  ⟨(some 45), none, .load none (.t 44), [], [], 0⟩, 
  ⟨(some 46), none, .bin .sub (.t 45) (.c (.u8 1)), [], [], 0⟩, 
  ⟨(some 47), none, .fld 5 (.t 6), [], [], 0⟩, 
  ⟨none, none, .store none (.t 47) (.t 46), [], [], 0⟩] false (8 :: 6 :: 56 :: 57 :: 58 :: 59 :: 7 :: 1 :: []))
 (.seq (.region 16 (
  ⟨(some 49), none, .mv (.t 8), [], [], 0⟩ :: 
  ⟨(some 50), none, .call false 16 [((.t 49), (some .k8))], [], [], 0⟩ :: 
  ⟨(some 48), none, .mv (.t 50), [], [], 0⟩ :: 
  ⟨(some 51), none, .ext 0 (.t 48), [], [], 0⟩ :: 
  ⟨(some 52), none, .ext 1 (.t 48), [], [], 0⟩ :: 
  ⟨(some 10), none, .alloc (.gen ((.bool false) :: (.u8 0) :: (.u32 0) :: (.u16 0) :: (.u16 0) :: (.u8 0) :: (.u8 0) :: (.bool false) :: (.u64 0) :: (.u64 0) :: (.bool false) :: (.u64 0) :: (.u64 0) :: .nil :: [])), [], [], 0⟩ :: 
  ⟨none, none, .store (some 14) (.t 10) (.t 51), [], [], 0⟩ :: 
  ⟨(some 11), none, .mv (.t 52), [], [], 0⟩ :: []) false (11 :: 6 :: 10 :: 56 :: 57 :: 58 :: 59 :: 8 :: 7 :: 1 :: []))
 (.seq (.seq (.region 17 (
  ⟨(some 53), none, .mv (.t 11), [], [], 0⟩ :: 
  ⟨(some 54), none, .bin .neq (.t 53) (.c (.n 0)), [], [], 0⟩ :: 
  ⟨(some 55), none, .mv (.t 54), [], [], 0⟩ :: 
  ⟨(some 56), (some (55, false)), .load (some 14) (.t 6), [], [], 0⟩ :: 
  ⟨(some 57), (some (55, false)), .load (some 14) (.t 10), [], [], 0⟩ :: 
  ⟨(some 58), (some (55, false)), .call false 19 [((.t 56), none), ((.t 57), none)], [], [], 0⟩ :: 
  ⟨(some 59), (some (55, false)), .un .not (.t 58), [], [], 0⟩ :: 
  ⟨(some 60), none, .pick (.t 55) (.c (.bool true)) (.t 59), [], [], 0⟩ :: []) false (60 :: 8 :: 7 :: 1 :: 6 :: 56 :: 57 :: 58 :: 59 :: []))
 (.cond (.t 60)
 (.seq (.region 18 [
  ⟨(some 4), none, .mv (.c (.bool false)), [], [], 0⟩] false [4])
 (.ret))
 (.skip)))
 (.region 19 [
  ⟨(some 61), none, .mv (.t 8), [], [], 0⟩, 
  ⟨(some 5), none, .mv (.t 61), [], [], 0⟩] false (7 :: 1 :: 5 :: 6 :: 56 :: 57 :: 58 :: 59 :: [])))))))))
 (.region 9 [
  ⟨(some 27), none, .mv (.t 7), [], [], 0⟩, 
  ⟨(some 28), none, .bin .add (.t 27) (.c (.n 1)), [], [], 0⟩, 
  ⟨(some 7), none, .mv (.t 28), [], [], 0⟩] false (7 :: 1 :: 5 :: 6 :: 56 :: 57 :: 58 :: 59 :: [])))))))
 (.seq (.region 20 [
  ⟨(some 4), none, .mv (.c (.bool true)), [], [], 0⟩] false [4])
 (.ret)))))))
def rs6 : List (Nat × Option (Option Nat)) := [(4, none)]

/-- towpath/towpathlaw13.PacketLong -/
def mc7 : MC := .seq (.region 0 [
  ⟨(some 4), none, .mv (.c (.bool false)), [], [], 0⟩] false (0 :: 1 :: 49 :: 50 :: 60 :: 61 :: 64 :: 65 :: 67 :: 68 :: 66 :: 69 :: 70 :: 73 :: 74 :: []))
 (.seq (.seq (.region 1 [
  ⟨(some 14), none, .call false 12 [], [], [], 0⟩, 
  ⟨(some 15), none, .un .not (.t 14), [], [], 0⟩] false (15 :: 0 :: 1 :: 49 :: 50 :: 60 :: 61 :: 64 :: 65 :: 67 :: 68 :: 66 :: 69 :: 70 :: 73 :: 74 :: []))
 (.cond (.t 15)
 (.seq (.region 2 [
  ⟨(some 4), none, .mv (.c (.bool false)), [], [], 0⟩] false [4])
 (.ret))
 (.skip)))
 (.seq (.region 3 [
  ⟨(some 16), none, .mv (.t 0), [], [], 0⟩, 
  ⟨(some 17), none, .bin .rem (.t 16) (.c (.u8 5)), [], [], 0⟩, 
  ⟨(some 18), none, .conv .i64 (.t 17), [], [], 0⟩, 
  ⟨(some 19), none, .bin .sub (.t 18) (.c (.n 2)), [], [], 0⟩, 
  ⟨(some 5), none, .mv (.t 19), [], [], 0⟩] false (1 :: 5 :: 49 :: 50 :: 60 :: 61 :: 64 :: 65 :: 67 :: 68 :: 66 :: 69 :: 70 :: 73 :: 74 :: []))
 (.seq (.region 4 [
  ⟨(some 6), none, .mv (.c (.n 20)), [], [], 0⟩] false (1 :: 5 :: 49 :: 50 :: 60 :: 61 :: 64 :: 65 :: 67 :: 68 :: 66 :: 69 :: 70 :: 73 :: 74 :: 6 :: []))
 (.seq (.seq (.region 5 [
  ⟨(some 20), none, .mv (.t 1), [], [], 0⟩] false (20 :: 1 :: 5 :: 49 :: 50 :: 60 :: 61 :: 64 :: 65 :: 67 :: 68 :: 66 :: 69 :: 70 :: 73 :: 74 :: 6 :: []))
 (.cond (.t 20)
 (.region 6 [
  ⟨(some 6), none, .mv (.c (.n 40)), [], [], 0⟩] false (1 :: 6 :: 5 :: 49 :: 50 :: 60 :: 61 :: 64 :: 65 :: 67 :: 68 :: 66 :: 69 :: 70 :: 73 :: 74 :: []))
 (.skip)))
 (.seq (.region 7 (
  ⟨(some 21), none, .mv (.t 1), [], [], 0⟩ :: 
  ⟨(some 22), none, .mv (.t 1), [], [], 0⟩ :: 
  ⟨(some 23), none, .bldz .kg [(.bool false), (.u64 0), (.u64 0)] [(0, 1, (.t 22))], [], [], 0⟩ :: 
  ⟨(some 24), none, .mv (.t 1), [], [], 0⟩ :: 
  ⟨(some 25), none, .bldz .kg [(.bool false), (.u64 0), (.u64 0)] [(0, 1, (.t 24))], [], [], 0⟩ :: 
  ⟨(some 26), none, .mv (.t 6), [], [], 0⟩ :: 
  ⟨(some 27), none, .bin .sub (.c (.n 1400)) (.t 26), [], [], 0⟩ :: 
  ⟨(some 28), none, .mv (.t 5), [], [], 0⟩ :: 
  ⟨(some 29), none, .bin .add (.t 27) (.t 28), [], [], 0⟩ :: 
  ⟨(some 30), none, .mk .k8 [(.u8 0)] 1 (.t 29) (.t 29), [], [], 0⟩ :: 
  ⟨(some 31), none, .bldz .kg ((.bool false) :: (.u8 0) :: (.u32 0) :: (.u16 0) :: (.u16 0) :: (.u8 0) :: (.u8 0) :: (.bool false) :: (.u64 0) :: (.u64 0) :: (.bool false) :: (.u64 0) :: (.u64 0) :: .nil :: []) [(0, 1, (.t 21)), (5, 1, (.c (.u8 9))), (7, 3, (.t 23)), (10, 3, (.t 25)), (13, 1, (.t 30))], [], [], 0⟩ :: 
  ⟨(some 7), none, .alloc (.gen ((.bool false) :: (.u8 0) :: (.u32 0) :: (.u16 0) :: (.u16 0) :: (.u8 0) :: (.u8 0) :: (.bool false) :: (.u64 0) :: (.u64 0) :: (.bool false) :: (.u64 0) :: (.u64 0) :: .nil :: [])), [], [], 0⟩ :: 
  ⟨none, none, .store (some 14) (.t 7) (.t 31), [], [], 0⟩ :: []) false (7 :: 5 :: 49 :: 50 :: 60 :: 61 :: 64 :: 65 :: 67 :: 68 :: 66 :: 69 :: 70 :: 73 :: 74 :: []))
 (.seq (.region 8 (
  ⟨(some 33), none, .load (some 14) (.t 7), [], [], 0⟩ :: 
  ⟨(some 34), none, .call false 14 [((.t 33), none)], [], [], 0⟩ :: 
  ⟨(some 32), none, .mv (.t 34), [], [], 0⟩ :: 
  ⟨(some 35), none, .ext 0 (.t 32), [], [], 0⟩ :: 
  ⟨(some 36), none, .ext 1 (.t 32), [], [], 0⟩ :: 
  ⟨(some 8), none, .mv (.t 35), [], [], 0⟩ :: 
  ⟨(some 9), none, .mv (.t 36), [], [], 0⟩ :: []) false (5 :: 9 :: 49 :: 50 :: 8 :: 60 :: 61 :: 64 :: 65 :: 7 :: 67 :: 68 :: 66 :: 69 :: 70 :: 73 :: 74 :: []))
 (.seq (.region 9 (
  ⟨(some 38), none, .mv (.t 5), [], [], 0⟩ :: 
  ⟨(some 39), none, .bin .add (.c (.n 1400)) (.t 38), [], [], 0⟩ :: 
  ⟨(some 40), none, .mk .k8 [(.u8 0)] 1 (.t 39) (.t 39), [], [], 0⟩ :: 
  ⟨(some 41), none, .call false 16 [((.t 40), (some .k8))], [], [], 0⟩ :: 
  ⟨(some 37), none, .mv (.t 41), [], [], 0⟩ :: 
  ⟨(some 42), none, .ext 0 (.t 37), [], [], 0⟩ :: 
  ⟨(some 43), none, .ext 1 (.t 37), [], [], 0⟩ :: 
  ⟨(some 10), none, .alloc (.gen ((.bool false) :: (.u8 0) :: (.u32 0) :: (.u16 0) :: (.u16 0) :: (.u8 0) :: (.u8 0) :: (.bool false) :: (.u64 0) :: (.u64 0) :: (.bool false) :: (.u64 0) :: (.u64 0) :: .nil :: [])), [], [], 0⟩ :: 
  ⟨none, none, .store (some 14) (.t 10) (.t 42), [], [], 0⟩ :: 
  ⟨(some 11), none, .mv (.t 43), [], [], 0⟩ :: []) false (5 :: 9 :: 11 :: 49 :: 50 :: 8 :: 60 :: 61 :: 64 :: 65 :: 7 :: 67 :: 68 :: 66 :: 69 :: 70 :: 73 :: 74 :: []))
 (.seq (.seq (.region 10 [
  ⟨(some 44), none, .mv (.t 5), [], [], 0⟩, 
  ⟨(some 45), none, .bin .gtr (.t 44) (.c (.n 0)), [], [], 0⟩] false (45 :: 9 :: 11 :: 49 :: 50 :: 8 :: 60 :: 61 :: 64 :: 65 :: 7 :: 67 :: 68 :: 66 :: 69 :: 70 :: 73 :: 74 :: []))
 (.cond (.t 45)
 (.seq (.region 11 (
  ⟨(some 46), none, .mv (.t 9), [], [], 0⟩ :: 
  ⟨(some 47), none, .bin .eql (.t 46) (.c (.n 23)), [], [], 0⟩ :: 
  ⟨(some 48), none, .mv (.t 47), [], [], 0⟩ :: 
  ⟨(some 49), (some (48, true)), .mv (.t 11), [], [], 0⟩ :: 
  ⟨(some 50), (some (48, true)), .bin .eql (.t 49) (.c (.n 23)), [], [], 0⟩ :: 
  ⟨(some 51), none, .pick (.t 48) (.t 50) (.c (.bool false)), [], [], 0⟩ :: 
  ⟨(some 4), none, .mv (.t 51), [], [], 0⟩ :: []) false [4])
 (.ret))
 (.skip)))
 (.seq (.region 12 (
  ⟨(some 53), none, .mv (.t 8), [], [], 0⟩ :: 
  ⟨(some 54), none, .call false 16 [((.t 53), (some .k8))], [], [], 0⟩ :: 
  ⟨(some 52), none, .mv (.t 54), [], [], 0⟩ :: 
  ⟨(some 55), none, .ext 0 (.t 52), [], [], 0⟩ :: 
  ⟨(some 56), none, .ext 1 (.t 52), [], [], 0⟩ :: 
  ⟨(some 12), none, .alloc (.gen ((.bool false) :: (.u8 0) :: (.u32 0) :: (.u16 0) :: (.u16 0) :: (.u8 0) :: (.u8 0) :: (.bool false) :: (.u64 0) :: (.u64 0) :: (.bool false) :: (.u64 0) :: (.u64 0) :: .nil :: [])), [], [], 0⟩ :: 
  ⟨none, none, .store (some 14) (.t 12) (.t 55), [], [], 0⟩ :: 
  ⟨(some 13), none, .mv (.t 56), [], [], 0⟩ :: []) false (9 :: 13 :: 60 :: 61 :: 12 :: 64 :: 65 :: 7 :: 67 :: 68 :: 66 :: 69 :: 70 :: 11 :: 73 :: 74 :: []))
 (.seq (.region 13 (
  ⟨(some 57), none, .mv (.t 9), [], [], 0⟩ :: 
  ⟨(some 58), none, .bin .eql (.t 57) (.c (.n 0)), [], [], 0⟩ :: 
  ⟨(some 59), none, .mv (.t 58), [], [], 0⟩ :: 
  ⟨(some 60), (some (59, true)), .mv (.t 13), [], [], 0⟩ :: 
  ⟨(some 61), (some (59, true)), .bin .eql (.t 60) (.c (.n 0)), [], [], 0⟩ :: 
  ⟨(some 62), none, .pick (.t 59) (.t 61) (.c (.bool false)), [], [], 0⟩ :: 
  ⟨(some 63), none, .mv (.t 62), [], [], 0⟩ :: 
  ⟨(some 64), (some (63, true)), .fld 13 (.t 12), [], [], 0⟩ :: 
  ⟨(some 65), (some (63, true)), .load none (.t 64), [], [], 0⟩ :: 
  ⟨(some 66), (some (63, true)), .lenS (.t 65), [], [], 0⟩ :: 
  ⟨(some 67), (some (63, true)), .fld 13 (.t 7), [], [], 0⟩ :: 
  ⟨(some 68), (some (63, true)), .load none (.t 67), [], [], 0⟩ :: 
  ⟨(some 69), (some (63, true)), .lenS (.t 68), [], [], 0⟩ :: 
  ⟨(some 70), (some (63, true)), .bin .eql (.t 66) (.t 69), [], [], 0⟩ :: 
  ⟨(some 71), none, .pick (.t 63) (.t 70) (.c (.bool false)), [], [], 0⟩ :: 
  ⟨(some 72), none, .mv (.t 71), [], [], 0⟩ :: 
  ⟨(some 73), (some (72, true)), .mv (.t 11), [], [], 0⟩ :: 
  ⟨(some 74), (some (72, true)), .bin .eql (.t 73) (.c (.n 20)), [], [], 0⟩ :: 
  ⟨(some 75), none, .pick (.t 72) (.t 74) (.c (.bool false)), [], [], 0⟩ :: 
  ⟨(some 4), none, .mv (.t 75), [], [], 0⟩ :: []) false [4])
 (.ret)))))))))))
def rs7 : List (Nat × Option (Option Nat)) := [(4, none)]

/-- towpath/towpathlaw13.PacketPlaces -/
def mc8 : MC := .seq (.region 0 [
  ⟨(some 1), none, .box (.t 0), [], [], 0⟩, 
  ⟨(some 2), none, .mv (.c (.bool false)), [], [], 0⟩] false (1 :: 31 :: 32 :: 33 :: 34 :: 35 :: 38 :: 39 :: 41 :: 40 :: 42 :: 43 :: 46 :: 47 :: 49 :: 48 :: 50 :: 51 :: 54 :: 55 :: 57 :: 58 :: 56 :: 59 :: 60 :: 63 :: 64 :: 66 :: 67 :: 65 :: 68 :: 69 :: 72 :: 73 :: 75 :: 76 :: 74 :: 77 :: 78 :: 88 :: 89 :: 90 :: 91 :: 94 :: 95 :: 97 :: 96 :: 98 :: 99 :: 102 :: 103 :: 105 :: 104 :: 106 :: 107 :: 110 :: 111 :: 113 :: 112 :: 114 :: 115 :: 118 :: 119 :: 121 :: 122 :: 123 :: 120 :: 124 :: 125 :: 128 :: 129 :: 130 :: 131 :: 132 :: 135 :: 136 :: 138 :: 139 :: 137 :: 140 :: 141 :: []))
 (.seq (.seq (.region 1 [
  ⟨(some 6), none, .call false 12 [], [], [], 0⟩, 
  ⟨(some 7), none, .un .not (.t 6), [], [], 0⟩] false (7 :: 1 :: 31 :: 32 :: 33 :: 34 :: 35 :: 38 :: 39 :: 41 :: 40 :: 42 :: 43 :: 46 :: 47 :: 49 :: 48 :: 50 :: 51 :: 54 :: 55 :: 57 :: 58 :: 56 :: 59 :: 60 :: 63 :: 64 :: 66 :: 67 :: 65 :: 68 :: 69 :: 72 :: 73 :: 75 :: 76 :: 74 :: 77 :: 78 :: 88 :: 89 :: 90 :: 91 :: 94 :: 95 :: 97 :: 96 :: 98 :: 99 :: 102 :: 103 :: 105 :: 104 :: 106 :: 107 :: 110 :: 111 :: 113 :: 112 :: 114 :: 115 :: 118 :: 119 :: 121 :: 122 :: 123 :: 120 :: 124 :: 125 :: 128 :: 129 :: 130 :: 131 :: 132 :: 135 :: 136 :: 138 :: 139 :: 137 :: 140 :: 141 :: []))
 (.cond (.t 7)
 (.seq (.region 2 [
  ⟨(some 2), none, .mv (.c (.bool false)), [], [], 0⟩] false [2])
 (.ret))
 (.skip)))
 (.seq (.seq (.region 3 [
  ⟨(some 8), none, .fld 7 (.t 1), [], [], 0⟩, 
  ⟨(some 9), none, .load none (.t 8), [], [], 0⟩, 
  ⟨(some 10), none, .lenS (.t 9), [], [], 0⟩, 
  ⟨(some 11), none, .bin .gtr (.t 10) (.c (.n 100)), [], [], 0⟩] false (11 :: 1 :: 31 :: 32 :: 33 :: 34 :: 35 :: 38 :: 39 :: 41 :: 40 :: 42 :: 43 :: 46 :: 47 :: 49 :: 48 :: 50 :: 51 :: 54 :: 55 :: 57 :: 58 :: 56 :: 59 :: 60 :: 63 :: 64 :: 66 :: 67 :: 65 :: 68 :: 69 :: 72 :: 73 :: 75 :: 76 :: 74 :: 77 :: 78 :: 88 :: 89 :: 90 :: 91 :: 94 :: 95 :: 97 :: 96 :: 98 :: 99 :: 102 :: 103 :: 105 :: 104 :: 106 :: 107 :: 110 :: 111 :: 113 :: 112 :: 114 :: 115 :: 118 :: 119 :: 121 :: 122 :: 123 :: 120 :: 124 :: 125 :: 128 :: 129 :: 130 :: 131 :: 132 :: 135 :: 136 :: 138 :: 139 :: 137 :: 140 :: 141 :: []))
 (.cond (.t 11)
 (.seq (.region 4 [
  ⟨(some 2), none, .mv (.c (.bool true)), [], [], 0⟩] false [2])
 (.ret))
 (.skip)))
 (.seq (.region 5 [
  ⟨(some 12), none, .load (some 8) (.t 1), [], [], 0⟩, 
  ⟨(some 13), none, .call false 13 [((.t 12), none)], [], [], 0⟩, 
  ⟨(some 3), none, .alloc (.gen ((.bool false) :: (.u8 0) :: (.u32 0) :: (.u16 0) :: (.u16 0) :: (.u8 0) :: (.u8 0) :: (.bool false) :: (.u64 0) :: (.u64 0) :: (.bool false) :: (.u64 0) :: (.u64 0) :: .nil :: [])), [], [], 0⟩, 
  ⟨none, none, .store (some 14) (.t 3) (.t 13), [], [], 0⟩] false (3 :: 1 :: 31 :: 32 :: 33 :: 34 :: 35 :: 38 :: 39 :: 41 :: 40 :: 42 :: 43 :: 46 :: 47 :: 49 :: 48 :: 50 :: 51 :: 54 :: 55 :: 57 :: 58 :: 56 :: 59 :: 60 :: 63 :: 64 :: 66 :: 67 :: 65 :: 68 :: 69 :: 72 :: 73 :: 75 :: 76 :: 74 :: 77 :: 78 :: 88 :: 89 :: 90 :: 91 :: 94 :: 95 :: 97 :: 96 :: 98 :: 99 :: 102 :: 103 :: 105 :: 104 :: 106 :: 107 :: 110 :: 111 :: 113 :: 112 :: 114 :: 115 :: 118 :: 119 :: 121 :: 122 :: 123 :: 120 :: 124 :: 125 :: 128 :: 129 :: 130 :: 131 :: 132 :: 135 :: 136 :: 138 :: 139 :: 137 :: 140 :: 141 :: []))
 (.seq (.region 6 (
  ⟨(some 15), none, .load (some 14) (.t 3), [], [], 0⟩ :: 
  ⟨(some 16), none, .call false 14 [((.t 15), none)], [], [], 0⟩ :: 
  ⟨(some 14), none, .mv (.t 16), [], [], 0⟩ :: 
  ⟨(some 17), none, .ext 0 (.t 14), [], [], 0⟩ :: 
  ⟨(some 18), none, .ext 1 (.t 14), [], [], 0⟩ :: 
  ⟨(some 4), none, .mv (.t 17), [], [], 0⟩ :: 
  ⟨(some 5), none, .mv (.t 18), [], [], 0⟩ :: []) false (5 :: 1 :: 4 :: 31 :: 32 :: 33 :: 34 :: 35 :: 38 :: 39 :: 3 :: 41 :: 40 :: 42 :: 43 :: 46 :: 47 :: 49 :: 48 :: 50 :: 51 :: 54 :: 55 :: 57 :: 58 :: 56 :: 59 :: 60 :: 63 :: 64 :: 66 :: 67 :: 65 :: 68 :: 69 :: 72 :: 73 :: 75 :: 76 :: 74 :: 77 :: 78 :: 88 :: 89 :: 90 :: 91 :: 94 :: 95 :: 97 :: 96 :: 98 :: 99 :: 102 :: 103 :: 105 :: 104 :: 106 :: 107 :: 110 :: 111 :: 113 :: 112 :: 114 :: 115 :: 118 :: 119 :: 121 :: 122 :: 123 :: 120 :: 124 :: 125 :: 128 :: 129 :: 130 :: 131 :: 132 :: 135 :: 136 :: 138 :: 139 :: 137 :: 140 :: 141 :: []))
 (.seq (.seq (.region 7 [
  ⟨(some 19), none, .mv (.t 5), [], [], 0⟩, 
  ⟨(some 20), none, .bin .neq (.t 19) (.c (.n 0)), [], [], 0⟩] false (20 :: 1 :: 4 :: 31 :: 32 :: 33 :: 34 :: 35 :: 38 :: 39 :: 3 :: 41 :: 40 :: 42 :: 43 :: 46 :: 47 :: 49 :: 48 :: 50 :: 51 :: 54 :: 55 :: 57 :: 58 :: 56 :: 59 :: 60 :: 63 :: 64 :: 66 :: 67 :: 65 :: 68 :: 69 :: 72 :: 73 :: 75 :: 76 :: 74 :: 77 :: 78 :: 88 :: 89 :: 90 :: 91 :: 94 :: 95 :: 97 :: 96 :: 98 :: 99 :: 102 :: 103 :: 105 :: 104 :: 106 :: 107 :: 110 :: 111 :: 113 :: 112 :: 114 :: 115 :: 118 :: 119 :: 121 :: 122 :: 123 :: 120 :: 124 :: 125 :: 128 :: 129 :: 130 :: 131 :: 132 :: 135 :: 136 :: 138 :: 139 :: 137 :: 140 :: 141 :: []))
 (.cond (.t 20)
 (.seq (.region 8 [
  ⟨(some 2), none, .mv (.c (.bool false)), [], [], 0⟩] false [2])
 (.ret))
 (.skip)))
 (.seq (.seq (.region 9 [
  ⟨(some 21), none, .fld 0 (.t 1), [], [], 0⟩, 
  ⟨(some 22), none, .load none (.t 21), [], [], 0⟩] false (22 :: 4 :: 1 :: 31 :: 32 :: 33 :: 34 :: 35 :: 38 :: 39 :: 3 :: 41 :: 40 :: 42 :: 43 :: 46 :: 47 :: 49 :: 48 :: 50 :: 51 :: 54 :: 55 :: 57 :: 58 :: 56 :: 59 :: 60 :: 63 :: 64 :: 66 :: 67 :: 65 :: 68 :: 69 :: 72 :: 73 :: 75 :: 76 :: 74 :: 77 :: 78 :: 88 :: 89 :: 90 :: 91 :: 94 :: 95 :: 97 :: 96 :: 98 :: 99 :: 102 :: 103 :: 105 :: 104 :: 106 :: 107 :: 110 :: 111 :: 113 :: 112 :: 114 :: 115 :: 118 :: 119 :: 121 :: 122 :: 123 :: 120 :: 124 :: 125 :: 128 :: 129 :: 130 :: 131 :: 132 :: 135 :: 136 :: 138 :: 139 :: 137 :: 140 :: 141 :: []))
 (.cond (.t 22)
 (.seq (.region 10 (
  ⟨(some 23), none, .mv (.t 4), [], [], 0⟩ :: 
  ⟨(some 24), none, .lenS (.t 23), [0], [], 1⟩ :: 
  ⟨(some 25), none, .fld 7 (.t 1), [], [], 0⟩ :: 
  ⟨(some 26), none, .load none (.t 25), [2], [], 4⟩ :: 
  ⟨(some 27), none, .lenS (.t 26), [3], [], 12⟩ :: 
  ⟨(some 28), none, .bin .add (.c (.n 40)) (.t 27), [4], [], 28⟩ :: 
  ⟨(some 29), none, .bin .eql (.t 24) (.t 28), [1, 5], [], 63⟩ :: 
  ⟨(some 30), none, .mv (.t 29), [6], [], 127⟩ :: 
  ⟨(some 31), (some (30, true)), .mv (.t 4), [7], [], 255⟩ :: 
  ⟨(some 32), (some (30, true)), .idxS 1 (.t 31) (.c (.n 0)), [8, 7], [], 511⟩ :: 
  ⟨(some 33), (some (30, true)), .load none (.t 32), [9, 7], [], 1023⟩ :: 
  ⟨(some 34), (some (30, true)), .bin .shr (.t 33) (.c (.u64 4)), [10, 7], [], 2047⟩ :: 
  ⟨(some 35), (some (30, true)), .bin .eql (.t 34) (.c (.u8 6)), [11, 7], [], 4095⟩ :: 
  ⟨(some 36), none, .pick (.t 30) (.t 35) (.c (.bool false)), [7, 12], [], 8191⟩ :: 
  ⟨(some 37), none, .mv (.t 36), [13, 7], [], 16383⟩ :: 
  ⟨(some 38), (some (37, true)), .mv (.t 4), [14], [], 32767⟩ :: 
  ⟨(some 39), (some (37, true)), .idxS 1 (.t 38) (.c (.n 6)), [15, 14], [], 65535⟩ :: 
  ⟨(some 40), (some (37, true)), .load none (.t 39), [16, 14], [], 131071⟩ :: 
  ⟨(some 41), (some (37, true)), .fld 6 (.t 3), [14], [], 32767⟩ :: 
  ⟨(some 42), (some (37, true)), .load none (.t 41), [18, 14], [], 294911⟩ :: 
  ⟨(some 43), (some (37, true)), .bin .eql (.t 40) (.t 42), [17, 19, 14], [], 1048575⟩ :: 
  ⟨(some 44), none, .pick (.t 37) (.t 43) (.c (.bool false)), [14, 20], [], 2097151⟩ :: 
  ⟨(some 45), none, .mv (.t 44), [21, 14], [], 4194303⟩ :: 
  ⟨(some 46), (some (45, true)), .mv (.t 4), [22], [], 8388607⟩ :: 
  ⟨(some 47), (some (45, true)), .idxS 1 (.t 46) (.c (.n 7)), [23, 22], [], 16777215⟩ :: 
  ⟨(some 48), (some (45, true)), .load none (.t 47), [24, 22], [], 33554431⟩ :: 
  ⟨(some 49), (some (45, true)), .fld 5 (.t 3), [22], [], 8388607⟩ :: 
  ⟨(some 50), (some (45, true)), .load none (.t 49), [26, 22], [], 75497471⟩ :: 
  ⟨(some 51), (some (45, true)), .bin .eql (.t 48) (.t 50), [25, 27, 22], [], 268435455⟩ :: 
  ⟨(some 52), none, .pick (.t 45) (.t 51) (.c (.bool false)), [22, 28], [], 536870911⟩ :: 
  ⟨(some 53), none, .mv (.t 52), [29, 22], [], 1073741823⟩ :: 
  ⟨(some 54), (some (53, true)), .mv (.t 4), [30], [], 2147483647⟩ :: 
  ⟨(some 55), (some (53, true)), .slcS 1 (.t 54) (some (.c (.n 8))) none, [31, 30], [], 4294967295⟩ :: 
  ⟨(some 56), (some (53, true)), .call false 24 [((.t 55), (some .k8)), ((.c (.n 8)), none)], [32, 30, 30], [], 8589934591⟩ :: 
  ⟨(some 57), (some (53, true)), .fld 7 (.t 3), [30], [], 2147483647⟩ :: 
  ⟨(some 58), (some (53, true)), .fld 1 (.t 57), [34, 30], [], 19327352831⟩ :: 
  ⟨(some 59), (some (53, true)), .load none (.t 58), [35, 30], [33], 53687091199⟩ :: 
  ⟨(some 60), (some (53, true)), .bin .eql (.t 56) (.t 59), [33, 36, 30], [], 137438953471⟩ :: 
  ⟨(some 61), none, .pick (.t 53) (.t 60) (.c (.bool false)), [30, 37], [], 274877906943⟩ :: 
  ⟨(some 62), none, .mv (.t 61), [38, 33], [], 549755813887⟩ :: 
  ⟨(some 63), (some (62, true)), .mv (.t 4), [39], [], 1099511627775⟩ :: 
  ⟨(some 64), (some (62, true)), .slcS 1 (.t 63) (some (.c (.n 32))) none, [40, 39], [], 2199023255551⟩ :: 
  ⟨(some 65), (some (62, true)), .call false 24 [((.t 64), (some .k8)), ((.c (.n 8)), none)], [41, 39, 39], [], 4398046511103⟩ :: 
  ⟨(some 66), (some (62, true)), .fld 10 (.t 3), [39], [], 1099511627775⟩ :: 
  ⟨(some 67), (some (62, true)), .fld 2 (.t 66), [43, 39], [], 9895604649983⟩ :: 
  ⟨(some 68), (some (62, true)), .load none (.t 67), [44, 39], [42], 27487790694399⟩ :: 
  ⟨(some 69), (some (62, true)), .bin .eql (.t 65) (.t 68), [42, 45, 39], [], 70368744177663⟩ :: 
  ⟨(some 70), none, .pick (.t 62) (.t 69) (.c (.bool false)), [39, 46], [], 140737488355327⟩ :: 
  ⟨(some 71), none, .mv (.t 70), [47, 42], [], 281474976710655⟩ :: 
  ⟨(some 72), (some (71, true)), .mv (.t 4), [48], [], 562949953421311⟩ :: 
  ⟨(some 73), (some (71, true)), .slcS 1 (.t 72) (some (.c (.n 40))) none, [49, 48], [], 1125899906842623⟩ :: 
  ⟨(some 74), (some (71, true)), .b2s (.t 73), [50, 48], [], 2251799813685247⟩ :: 
  ⟨(some 75), (some (71, true)), .fld 7 (.t 1), [48], [], 562949953421311⟩ :: 
  ⟨(some 76), (some (71, true)), .load none (.t 75), [52, 48], [], 5066549580791807⟩ :: 
  ⟨(some 77), (some (71, true)), .b2s (.t 76), [53, 48], [], 14073748835532799⟩ :: 
  ⟨(some 78), (some (71, true)), .binS .eql (.t 74) (.t 77), [51, 54, 48], [], 36028797018963967⟩ :: 
  ⟨(some 79), none, .pick (.t 71) (.t 78) (.c (.bool false)), [48, 55], [], 72057594037927935⟩ :: 
  ⟨(some 2), none, .mv (.t 79), (56 :: 48 :: 0 :: 1 :: 2 :: 3 :: 4 :: 5 :: 6 :: 7 :: 8 :: 9 :: 10 :: 11 :: 12 :: 13 :: 14 :: 15 :: 16 :: 17 :: 18 :: 19 :: 20 :: 21 :: 22 :: 23 :: 24 :: 25 :: 26 :: 27 :: 28 :: 29 :: 30 :: 31 :: 32 :: 33 :: 34 :: 35 :: 36 :: 37 :: 38 :: 39 :: 40 :: 41 :: 42 :: 43 :: 44 :: 45 :: 46 :: 47 :: 48 :: 49 :: 50 :: 51 :: 52 :: 53 :: 54 :: 55 :: 56 :: []), [], 144115188075855871⟩ :: []) true [2])
 (.ret))
 (.skip)))
 (.seq (.region 11 (
  ⟨(some 80), none, .mv (.t 4), [], [], 0⟩ :: 
  ⟨(some 81), none, .lenS (.t 80), [0], [], 1⟩ :: 
  ⟨(some 82), none, .fld 7 (.t 1), [], [], 0⟩ :: 
  ⟨(some 83), none, .load none (.t 82), [2], [], 4⟩ :: 
  ⟨(some 84), none, .lenS (.t 83), [3], [], 12⟩ :: 
  ⟨(some 85), none, .bin .add (.c (.n 20)) (.t 84), [4], [], 28⟩ :: 
  ⟨(some 86), none, .bin .eql (.t 81) (.t 85), [1, 5], [], 63⟩ :: 
  ⟨(some 87), none, .mv (.t 86), [6], [], 127⟩ :: 
  ⟨(some 88), (some (87, true)), .mv (.t 4), [7], [], 255⟩ :: 
  ⟨(some 89), (some (87, true)), .idxS 1 (.t 88) (.c (.n 0)), [8, 7], [], 511⟩ :: 
  ⟨(some 90), (some (87, true)), .load none (.t 89), [9, 7], [], 1023⟩ :: 
  ⟨(some 91), (some (87, true)), .bin .eql (.t 90) (.c (.u8 69)), [10, 7], [], 2047⟩ :: 
  ⟨(some 92), none, .pick (.t 87) (.t 91) (.c (.bool false)), [7, 11], [], 4095⟩ :: 
  ⟨(some 93), none, .mv (.t 92), [12, 7], [], 8191⟩ :: 
  ⟨(some 94), (some (93, true)), .mv (.t 4), [13], [], 16383⟩ :: 
  ⟨(some 95), (some (93, true)), .idxS 1 (.t 94) (.c (.n 1)), [14, 13], [], 32767⟩ :: 
  ⟨(some 96), (some (93, true)), .load none (.t 95), [15, 13], [], 65535⟩ :: 
  ⟨(some 97), (some (93, true)), .fld 1 (.t 3), [13], [], 16383⟩ :: 
  ⟨(some 98), (some (93, true)), .load none (.t 97), [17, 13], [], 147455⟩ :: 
  ⟨(some 99), (some (93, true)), .bin .eql (.t 96) (.t 98), [16, 18, 13], [], 524287⟩ :: 
  ⟨(some 100), none, .pick (.t 93) (.t 99) (.c (.bool false)), [13, 19], [], 1048575⟩ :: 
  ⟨(some 101), none, .mv (.t 100), [20, 13], [], 2097151⟩ :: 
  ⟨(some 102), (some (101, true)), .mv (.t 4), [21], [], 4194303⟩ :: 
  ⟨(some 103), (some (101, true)), .idxS 1 (.t 102) (.c (.n 8)), [22, 21], [], 8388607⟩ :: 
  ⟨(some 104), (some (101, true)), .load none (.t 103), [23, 21], [], 16777215⟩ :: 
  ⟨(some 105), (some (101, true)), .fld 5 (.t 3), [21], [], 4194303⟩ :: 
  ⟨(some 106), (some (101, true)), .load none (.t 105), [25, 21], [], 37748735⟩ :: 
  ⟨(some 107), (some (101, true)), .bin .eql (.t 104) (.t 106), [24, 26, 21], [], 134217727⟩ :: 
  ⟨(some 108), none, .pick (.t 101) (.t 107) (.c (.bool false)), [21, 27], [], 268435455⟩ :: 
  ⟨(some 109), none, .mv (.t 108), [28, 21], [], 536870911⟩ :: 
  ⟨(some 110), (some (109, true)), .mv (.t 4), [29], [], 1073741823⟩ :: 
  ⟨(some 111), (some (109, true)), .idxS 1 (.t 110) (.c (.n 9)), [30, 29], [], 2147483647⟩ :: 
  ⟨(some 112), (some (109, true)), .load none (.t 111), [31, 29], [], 4294967295⟩ :: 
  ⟨(some 113), (some (109, true)), .fld 6 (.t 3), [29], [], 1073741823⟩ :: 
  ⟨(some 114), (some (109, true)), .load none (.t 113), [33, 29], [], 9663676415⟩ :: 
  ⟨(some 115), (some (109, true)), .bin .eql (.t 112) (.t 114), [32, 34, 29], [], 34359738367⟩ :: 
  ⟨(some 116), none, .pick (.t 109) (.t 115) (.c (.bool false)), [29, 35], [], 68719476735⟩ :: 
  ⟨(some 117), none, .mv (.t 116), [36, 29], [], 137438953471⟩ :: 
  ⟨(some 118), (some (117, true)), .mv (.t 4), [37], [], 274877906943⟩ :: 
  ⟨(some 119), (some (117, true)), .slcS 1 (.t 118) (some (.c (.n 12))) none, [38, 37], [], 549755813887⟩ :: 
  ⟨(some 120), (some (117, true)), .call false 24 [((.t 119), (some .k8)), ((.c (.n 4)), none)], [39, 37, 37], [], 1099511627775⟩ :: 
  ⟨(some 121), (some (117, true)), .fld 7 (.t 3), [37], [], 274877906943⟩ :: 
  ⟨(some 122), (some (117, true)), .fld 1 (.t 121), [41, 37], [], 2473901162495⟩ :: 
  ⟨(some 123), (some (117, true)), .load none (.t 122), [42, 37], [40], 6871947673599⟩ :: 
  ⟨(some 124), (some (117, true)), .bin .shr (.t 123) (.c (.u64 32)), [43, 37], [], 15668040695807⟩ :: 
  ⟨(some 125), (some (117, true)), .bin .eql (.t 120) (.t 124), [40, 44, 37], [], 35184372088831⟩ :: 
  ⟨(some 126), none, .pick (.t 117) (.t 125) (.c (.bool false)), [37, 45], [], 70368744177663⟩ :: 
  ⟨(some 127), none, .mv (.t 126), [46, 40], [], 140737488355327⟩ :: 
  ⟨(some 128), (some (127, true)), .mv (.t 4), [47], [], 281474976710655⟩ :: 
  ⟨(some 129), (some (127, true)), .slcS 1 (.t 128) none (some (.c (.n 20))), [48, 47], [], 562949953421311⟩ :: 
  ⟨(some 130), (some (127, true)), .bsl .kg [(.t 129)], [49, 47], [], 1125899906842623⟩ :: 
  ⟨(some 131), (some (127, true)), .call false 22 [((.t 130), (some .kb))], [50, 47, 47], [], 2251799813685247⟩ :: 
  ⟨(some 132), (some (127, true)), .bin .eql (.t 131) (.c (.u16 0)), [51, 47], [], 4503599627370495⟩ :: 
  ⟨(some 133), none, .pick (.t 127) (.t 132) (.c (.bool false)), [47, 52], [], 9007199254740991⟩ :: 
  ⟨(some 134), none, .mv (.t 133), [53, 51], [], 18014398509481983⟩ :: 
  ⟨(some 135), (some (134, true)), .mv (.t 4), [54], [], 36028797018963967⟩ :: 
  ⟨(some 136), (some (134, true)), .slcS 1 (.t 135) (some (.c (.n 20))) none, [55, 54], [], 72057594037927935⟩ :: 
  ⟨(some 137), (some (134, true)), .b2s (.t 136), [56, 54], [], 144115188075855871⟩ :: 
  ⟨(some 138), (some (134, true)), .fld 7 (.t 1), [54], [], 36028797018963967⟩ :: 
  ⟨(some 139), (some (134, true)), .load none (.t 138), [58, 54], [], 324259173170675711⟩ :: 
  ⟨(some 140), (some (134, true)), .b2s (.t 139), [59, 54], [], 900719925474099199⟩ :: 
  ⟨(some 141), (some (134, true)), .binS .eql (.t 137) (.t 140), [57, 60, 54], [], 2305843009213693951⟩ :: 
  ⟨(some 142), none, .pick (.t 134) (.t 141) (.c (.bool false)), [54, 61], [], 4611686018427387903⟩ :: 
  ⟨(some 2), none, .mv (.t 142), (62 :: 54 :: 0 :: 1 :: 2 :: 3 :: 4 :: 5 :: 6 :: 7 :: 8 :: 9 :: 10 :: 11 :: 12 :: 13 :: 14 :: 15 :: 16 :: 17 :: 18 :: 19 :: 20 :: 21 :: 22 :: 23 :: 24 :: 25 :: 26 :: 27 :: 28 :: 29 :: 30 :: 31 :: 32 :: 33 :: 34 :: 35 :: 36 :: 37 :: 38 :: 39 :: 40 :: 41 :: 42 :: 43 :: 44 :: 45 :: 46 :: 47 :: 48 :: 49 :: 50 :: 51 :: 52 :: 53 :: 54 :: 55 :: 56 :: 57 :: 58 :: 59 :: 60 :: 61 :: 62 :: []), [], 9223372036854775807⟩ :: []) true [2])
 (.ret))))))))
def rs8 : List (Nat × Option (Option Nat)) := [(2, none)]

/-- towpath/towpathlaw13.PacketTurned -/
def mc9 : MC := .seq (.region 0 [
  ⟨(some 3), none, .box (.t 0), [], [], 0⟩, 
  ⟨(some 6), none, .mv (.c (.bool false)), [], [], 0⟩] false (3 :: 17 :: 18 :: 1 :: 21 :: 22 :: 23 :: 2 :: 48 :: 49 :: []))
 (.seq (.seq (.region 1 [
  ⟨(some 10), none, .call false 12 [], [], [], 0⟩, 
  ⟨(some 11), none, .un .not (.t 10), [], [], 0⟩] false (11 :: 3 :: 17 :: 18 :: 1 :: 21 :: 22 :: 23 :: 2 :: 48 :: 49 :: []))
 (.cond (.t 11)
 (.seq (.region 2 [
  ⟨(some 6), none, .mv (.c (.bool false)), [], [], 0⟩] false [6])
 (.ret))
 (.skip)))
 (.seq (.seq (.region 3 (
  ⟨(some 12), none, .fld 7 (.t 3), [], [], 0⟩ :: 
  ⟨(some 13), none, .load none (.t 12), [], [], 0⟩ :: 
  ⟨(some 14), none, .lenS (.t 13), [], [], 0⟩ :: 
  ⟨(some 15), none, .bin .gtr (.t 14) (.c (.n 100)), [], [], 0⟩ :: 
  ⟨(some 16), none, .mv (.t 15), [], [], 0⟩ :: 
  ⟨(some 17), (some (16, false)), .fld 0 (.t 3), [], [], 0⟩ :: 
  ⟨(some 18), (some (16, false)), .load none (.t 17), [], [], 0⟩ :: 
  ⟨(some 19), none, .pick (.t 16) (.c (.bool true)) (.t 18), [], [], 0⟩ :: 
  ⟨(some 20), none, .mv (.t 19), [], [], 0⟩ :: 
  ⟨(some 21), (some (20, false)), .mv (.t 1), [], [], 0⟩ :: 
  ⟨(some 22), (some (20, false)), .bin .rem (.t 21) (.c (.u8 20)), [], [], 0⟩ :: 
  ⟨(some 23), (some (20, false)), .bin .eql (.t 22) (.c (.u8 0)), [], [], 0⟩ :: 
  ⟨(some 24), none, .pick (.t 20) (.c (.bool true)) (.t 23), [], [], 0⟩ :: []) false (24 :: 3 :: 1 :: 2 :: 48 :: 49 :: []))
 (.cond (.t 24)
 (.seq (.region 4 [
  ⟨(some 6), none, .mv (.c (.bool true)), [], [], 0⟩] false [6])
 (.ret))
 (.skip)))
 (.seq (.region 5 [
  ⟨(some 25), none, .load (some 8) (.t 3), [], [], 0⟩, 
  ⟨(some 26), none, .call false 20 [((.t 25), none)], [], [], 0⟩, 
  ⟨(some 7), none, .mv (.t 26), [], [], 0⟩] false [7, 1, 2, 48, 49])
 (.seq (.seq (.region 6 [
  ⟨(some 27), none, .mv (.t 7), [], [], 0⟩, 
  ⟨(some 28), none, .lenS (.t 27), [], [], 0⟩, 
  ⟨(some 29), none, .bin .lss (.t 28) (.c (.n 20)), [], [], 0⟩] false (29 :: 7 :: 1 :: 2 :: 48 :: 49 :: []))
 (.cond (.t 29)
 (.seq (.region 7 [
  ⟨(some 6), none, .mv (.c (.bool true)), [], [], 0⟩] false [6])
 (.ret))
 (.skip)))
 (.seq (.region 8 (
  ⟨(some 30), none, .mv (.t 7), [], [], 0⟩ :: 
  ⟨(some 31), none, .mv (.t 1), [], [], 0⟩ :: 
  ⟨(some 32), none, .bin .rem (.t 31) (.c (.u8 20)), [], [], 0⟩ :: 
  ⟨(some 33), none, .idxS 1 (.t 30) (.t 32), [], [], 0⟩ :: 
  ⟨(some 34), none, .load none (.t 33), [], [], 0⟩ :: 
  ⟨(some 35), none, .mv (.t 2), [], [], 0⟩ :: 
  ⟨(some 36), none, .bin .rem (.t 35) (.c (.u8 8)), [], [], 0⟩ :: 
  ⟨(some 37), none, .bin .shl (.c (.u8 1)) (.t 36), [], [], 0⟩ :: 
  ⟨(some 38), none, .bin .xor (.t 34) (.t 37), [], [], 0⟩ :: 
  ⟨(some 39), none, .idxS 1 (.t 30) (.t 32), [], [], 0⟩ :: 
  ⟨none, none, .store none (.t 39) (.t 38), [], [], 0⟩ :: []) false [7, 48, 49])
 (.seq (.region 9 (
  ⟨(some 41), none, .mv (.t 7), [], [], 0⟩ :: 
  ⟨(some 42), none, .call false 16 [((.t 41), (some .k8))], [], [], 0⟩ :: 
  ⟨(some 40), none, .mv (.t 42), [], [], 0⟩ :: 
  ⟨(some 43), none, .ext 0 (.t 40), [], [], 0⟩ :: 
  ⟨(some 44), none, .ext 1 (.t 40), [], [], 0⟩ :: 
  ⟨(some 8), none, .alloc (.gen ((.bool false) :: (.u8 0) :: (.u32 0) :: (.u16 0) :: (.u16 0) :: (.u8 0) :: (.u8 0) :: (.bool false) :: (.u64 0) :: (.u64 0) :: (.bool false) :: (.u64 0) :: (.u64 0) :: .nil :: [])), [], [], 0⟩ :: 
  ⟨none, none, .store (some 14) (.t 8) (.t 43), [], [], 0⟩ :: 
  ⟨(some 9), none, .mv (.t 44), [], [], 0⟩ :: []) false [9, 48, 49])
 (.seq (.region 10 (
  ⟨(some 45), none, .mv (.t 9), [], [], 0⟩ :: 
  ⟨(some 46), none, .bin .eql (.t 45) (.c (.n 20)), [], [], 0⟩ :: 
  ⟨(some 47), none, .mv (.t 46), [], [], 0⟩ :: 
  ⟨(some 48), (some (47, false)), .mv (.t 9), [], [], 0⟩ :: 
  ⟨(some 49), (some (47, false)), .bin .eql (.t 48) (.c (.n 22)), [], [], 0⟩ :: 
  ⟨(some 50), none, .pick (.t 47) (.c (.bool true)) (.t 49), [], [], 0⟩ :: 
  ⟨(some 6), none, .mv (.t 50), [], [], 0⟩ :: []) false [6])
 (.ret))))))))
def rs9 : List (Nat × Option (Option Nat)) := [(6, none)]

/-- towpath/towpathlaw13.known -/
def mc12 : MC := .seq (.region 0 [
  ⟨(some 0), none, .mv (.c (.bool false)), [], [], 0⟩] false (38 :: 39 :: 40 :: 43 :: 44 :: 45 :: 48 :: 51 :: 52 :: 53 :: 56 :: 57 :: 58 :: 59 :: 62 :: 63 :: 64 :: 65 :: []))
 (.seq (.region 1 (
  ⟨(some 10), none, .bsl .k8 [(.c (.u8 97)), (.c (.u8 98))], [], [], 0⟩ :: 
  ⟨(some 11), none, .cvs (.t 10), [], [], 0⟩ :: 
  ⟨(some 12), none, .bldz .kg ((.bool false) :: (.u8 0) :: (.u32 0) :: (.u16 0) :: (.u16 0) :: (.u8 0) :: (.u8 0) :: (.bool false) :: (.u64 0) :: (.u64 0) :: (.bool false) :: (.u64 0) :: (.u64 0) :: .nil :: []) [(5, 1, (.c (.u8 3))), (6, 1, (.c (.u8 17))), (13, 1, (.t 11))], [], [], 0⟩ :: 
  ⟨(some 13), none, .call false 14 [((.t 12), none)], [], [], 0⟩ :: 
  ⟨(some 9), none, .mv (.t 13), [], [], 0⟩ :: 
  ⟨(some 14), none, .ext 0 (.t 9), [], [], 0⟩ :: 
  ⟨(some 15), none, .ext 1 (.t 9), [], [], 0⟩ :: 
  ⟨(some 1), none, .mv (.t 14), [], [], 0⟩ :: 
  ⟨(some 2), none, .mv (.t 15), [], [], 0⟩ :: []) false (1 :: 2 :: 38 :: 39 :: 40 :: 43 :: 44 :: 45 :: 48 :: 51 :: 52 :: 53 :: 56 :: 57 :: 58 :: 59 :: 62 :: 63 :: 64 :: 65 :: []))
 (.seq (.region 2 (
  ⟨(some 17), none, .mv (.t 1), [], [], 0⟩ :: 
  ⟨(some 18), none, .call false 16 [((.t 17), (some .k8))], [], [], 0⟩ :: 
  ⟨(some 16), none, .mv (.t 18), [], [], 0⟩ :: 
  ⟨(some 19), none, .ext 0 (.t 16), [], [], 0⟩ :: 
  ⟨(some 20), none, .ext 1 (.t 16), [], [], 0⟩ :: 
  ⟨(some 3), none, .alloc (.gen ((.bool false) :: (.u8 0) :: (.u32 0) :: (.u16 0) :: (.u16 0) :: (.u8 0) :: (.u8 0) :: (.bool false) :: (.u64 0) :: (.u64 0) :: (.bool false) :: (.u64 0) :: (.u64 0) :: .nil :: [])), [], [], 0⟩ :: 
  ⟨none, none, .store (some 14) (.t 3) (.t 19), [], [], 0⟩ :: 
  ⟨(some 4), none, .mv (.t 20), [], [], 0⟩ :: []) false (1 :: 2 :: 4 :: 38 :: 39 :: 40 :: 3 :: 43 :: 44 :: 45 :: 48 :: 51 :: 52 :: 53 :: 56 :: 57 :: 58 :: 59 :: 62 :: 63 :: 64 :: 65 :: []))
 (.seq (.region 3 (
  ⟨(some 22), none, .mv (.t 1), [], [], 0⟩ :: 
  ⟨(some 23), none, .call false 17 [((.t 22), (some .k8))], [], [], 0⟩ :: 
  ⟨(some 21), none, .mv (.t 23), [], [], 0⟩ :: 
  ⟨(some 24), none, .ext 0 (.t 21), [], [], 0⟩ :: 
  ⟨(some 25), none, .ext 1 (.t 21), [], [], 0⟩ :: 
  ⟨(some 5), none, .mv (.t 24), [], [], 0⟩ :: 
  ⟨(some 6), none, .mv (.t 25), [], [], 0⟩ :: []) false (5 :: 2 :: 4 :: 1 :: 38 :: 39 :: 40 :: 3 :: 43 :: 44 :: 45 :: 6 :: 48 :: 51 :: 52 :: 53 :: 56 :: 57 :: 58 :: 59 :: 62 :: 63 :: 64 :: 65 :: []))
 (.seq (.region 4 (
  ⟨(some 27), none, .mv (.t 5), [], [], 0⟩ :: 
  ⟨(some 28), none, .call false 16 [((.t 27), (some .k8))], [], [], 0⟩ :: 
  ⟨(some 26), none, .mv (.t 28), [], [], 0⟩ :: 
  ⟨(some 29), none, .ext 0 (.t 26), [], [], 0⟩ :: 
  ⟨(some 30), none, .ext 1 (.t 26), [], [], 0⟩ :: 
  ⟨(some 7), none, .alloc (.gen ((.bool false) :: (.u8 0) :: (.u32 0) :: (.u16 0) :: (.u16 0) :: (.u8 0) :: (.u8 0) :: (.bool false) :: (.u64 0) :: (.u64 0) :: (.bool false) :: (.u64 0) :: (.u64 0) :: .nil :: [])), [], [], 0⟩ :: 
  ⟨none, none, .store (some 14) (.t 7) (.t 29), [], [], 0⟩ :: 
  ⟨(some 8), none, .mv (.t 30), [], [], 0⟩ :: []) false (2 :: 4 :: 8 :: 1 :: 38 :: 39 :: 40 :: 3 :: 43 :: 44 :: 45 :: 6 :: 48 :: 7 :: 51 :: 52 :: 53 :: 56 :: 57 :: 58 :: 59 :: 62 :: 63 :: 64 :: 65 :: []))
 (.seq (.region 5 (
  ⟨(some 31), none, .mv (.t 2), [], [], 0⟩ :: 
  ⟨(some 32), none, .mv (.t 4), [], [], 0⟩ :: 
  ⟨(some 33), none, .bin .add (.t 31) (.t 32), [], [], 0⟩ :: 
  ⟨(some 34), none, .mv (.t 8), [], [], 0⟩ :: 
  ⟨(some 35), none, .bin .add (.t 33) (.t 34), [], [], 0⟩ :: 
  ⟨(some 36), none, .bin .eql (.t 35) (.c (.n 0)), [], [], 0⟩ :: 
  ⟨(some 37), none, .mv (.t 36), [], [], 0⟩ :: 
  ⟨(some 38), (some (37, true)), .mv (.t 1), [], [], 0⟩ :: 
  ⟨(some 39), (some (37, true)), .lenS (.t 38), [], [], 0⟩ :: 
  ⟨(some 40), (some (37, true)), .bin .eql (.t 39) (.c (.n 22)), [], [], 0⟩ :: 
  ⟨(some 41), none, .pick (.t 37) (.t 40) (.c (.bool false)), [], [], 0⟩ :: 
  ⟨(some 42), none, .mv (.t 41), [], [], 0⟩ :: 
  ⟨(some 43), (some (42, true)), .fld 5 (.t 3), [], [], 0⟩ :: 
  ⟨(some 44), (some (42, true)), .load none (.t 43), [], [], 0⟩ :: 
  ⟨(some 45), (some (42, true)), .bin .eql (.t 44) (.c (.u8 3)), [], [], 0⟩ :: 
  ⟨(some 46), none, .pick (.t 42) (.t 45) (.c (.bool false)), [], [], 0⟩ :: 
  ⟨(some 47), none, .mv (.t 46), [], [], 0⟩ :: 
  ⟨(some 48), (some (47, true)), .mv (.t 6), [], [], 0⟩ :: 
  ⟨(some 49), none, .pick (.t 47) (.t 48) (.c (.bool false)), [], [], 0⟩ :: 
  ⟨(some 50), none, .mv (.t 49), [], [], 0⟩ :: 
  ⟨(some 51), (some (50, true)), .fld 5 (.t 7), [], [], 0⟩ :: 
  ⟨(some 52), (some (50, true)), .load none (.t 51), [], [], 0⟩ :: 
  ⟨(some 53), (some (50, true)), .bin .eql (.t 52) (.c (.u8 2)), [], [], 0⟩ :: 
  ⟨(some 54), none, .pick (.t 50) (.t 53) (.c (.bool false)), [], [], 0⟩ :: 
  ⟨(some 55), none, .mv (.t 54), [], [], 0⟩ :: 
  ⟨(some 56), (some (55, true)), .fld 13 (.t 7), [], [], 0⟩ :: 
  ⟨(some 57), (some (55, true)), .load none (.t 56), [], [], 0⟩ :: 
  ⟨(some 58), (some (55, true)), .b2s (.t 57), [], [], 0⟩ :: 
  ⟨(some 59), (some (55, true)), .binS .eql (.t 58) (.c (.str [97, 98])), [], [], 0⟩ :: 
  ⟨(some 60), none, .pick (.t 55) (.t 59) (.c (.bool false)), [], [], 0⟩ :: 
  ⟨(some 61), none, .mv (.t 60), [], [], 0⟩ :: 
  ⟨(some 62), (some (61, true)), .bsl .k8 [(.c (.u8 255)), (.c (.u8 255))], [], [], 0⟩ :: 
  ⟨(some 63), (some (61, true)), .bsl .kg [(.t 62)], [], [], 0⟩ :: 
  ⟨(some 64), (some (61, true)), .call false 22 [((.t 63), (some .kb))], [], [], 0⟩ :: 
  ⟨(some 65), (some (61, true)), .bin .eql (.t 64) (.c (.u16 0)), [], [], 0⟩ :: 
  ⟨(some 66), none, .pick (.t 61) (.t 65) (.c (.bool false)), [], [], 0⟩ :: 
  ⟨(some 0), none, .mv (.t 66), [], [], 0⟩ :: []) false [0])
 (.ret))))))
def rs12 : List (Nat × Option (Option Nat)) := [(0, none)]

/-- (towpath/towpathseat.Pack).Packet -/
def mc13 : MC := .seq (.region 0 [
  ⟨(some 1), none, .box (.t 0), [], [], 0⟩, 
  ⟨(some 2), none, .alloc (.gen ((.bool false) :: (.u8 0) :: (.u32 0) :: (.u16 0) :: (.u16 0) :: (.u8 0) :: (.u8 0) :: (.bool false) :: (.u64 0) :: (.u64 0) :: (.bool false) :: (.u64 0) :: (.u64 0) :: .nil :: [])), [], [], 0⟩] false [1, 2])
 (.seq (.region 1 (
  ⟨(some 4), none, .fld 0 (.t 1), [], [], 0⟩ :: 
  ⟨(some 5), none, .load none (.t 4), [0], [], 1⟩ :: 
  ⟨(some 6), none, .fld 3 (.t 1), [], [], 0⟩ :: 
  ⟨(some 7), none, .load none (.t 6), [2], [], 4⟩ :: 
  ⟨(some 8), none, .fld 5 (.t 1), [], [], 0⟩ :: 
  ⟨(some 9), none, .load none (.t 8), [4], [], 16⟩ :: 
  ⟨(some 10), none, .fld 6 (.t 1), [], [], 0⟩ :: 
  ⟨(some 11), none, .load none (.t 10), [6], [], 64⟩ :: 
  ⟨(some 12), none, .fld 0 (.t 1), [], [], 0⟩ :: 
  ⟨(some 13), none, .load none (.t 12), [8], [], 256⟩ :: 
  ⟨(some 14), none, .fld 1 (.t 1), [], [], 0⟩ :: 
  ⟨(some 15), none, .load none (.t 14), [10], [], 1024⟩ :: 
  ⟨(some 16), none, .fld 3 (.t 1), [], [], 0⟩ :: 
  ⟨(some 17), none, .load none (.t 16), [12], [], 4096⟩ :: 
  ⟨(some 18), none, .call false 26 [((.t 13), none), ((.t 15), none), ((.t 17), none)], [9, 11, 13], [1, 3, 5, 7], 16128⟩ :: 
  ⟨(some 19), none, .fld 0 (.t 1), [], [], 0⟩ :: 
  ⟨(some 20), none, .load none (.t 19), [15], [14], 32768⟩ :: 
  ⟨(some 21), none, .fld 2 (.t 1), [], [], 0⟩ :: 
  ⟨(some 22), none, .load none (.t 21), [17], [14], 131072⟩ :: 
  ⟨(some 23), none, .fld 4 (.t 1), [], [], 0⟩ :: 
  ⟨(some 24), none, .load none (.t 23), [19], [14], 524288⟩ :: 
  ⟨(some 25), none, .call false 26 [((.t 20), none), ((.t 22), none), ((.t 24), none)], [16, 18, 20, 14], [1, 3, 5, 7], 2096896⟩ :: 
  ⟨(some 26), none, .fld 7 (.t 1), [], [], 0⟩ :: 
  ⟨(some 27), none, .load none (.t 26), [22], [14, 21], 4194304⟩ :: 
  ⟨(some 28), none, .bldz .kg ((.bool false) :: (.u8 0) :: (.u32 0) :: (.u16 0) :: (.u16 0) :: (.u8 0) :: (.u8 0) :: (.bool false) :: (.u64 0) :: (.u64 0) :: (.bool false) :: (.u64 0) :: (.u64 0) :: .nil :: []) ((0, 1, (.t 5)) :: (1, 1, (.t 7)) :: (5, 1, (.t 9)) :: (6, 1, (.t 11)) :: (7, 3, (.t 18)) :: (10, 3, (.t 25)) :: (13, 1, (.t 27)) :: []), (1 :: 3 :: 5 :: 7 :: 14 :: 21 :: 23 :: []), [], 16777215⟩ :: 
  ⟨(some 3), none, .alloc (.gen ((.bool false) :: (.u8 0) :: (.u32 0) :: (.u16 0) :: (.u16 0) :: (.u8 0) :: (.u8 0) :: (.bool false) :: (.u64 0) :: (.u64 0) :: (.bool false) :: (.u64 0) :: (.u64 0) :: .nil :: [])), [], (1 :: 3 :: 5 :: 7 :: 9 :: 11 :: 13 :: 14 :: 16 :: 18 :: 20 :: 21 :: 23 :: []), 0⟩ :: 
  ⟨none, none, .store (some 14) (.t 3) (.t 28), (25 :: 24 :: 21 :: 0 :: 1 :: 2 :: 3 :: 4 :: 5 :: 6 :: 7 :: 8 :: 9 :: 10 :: 11 :: 12 :: 13 :: 14 :: 15 :: 16 :: 17 :: 18 :: 19 :: 20 :: 21 :: 22 :: 23 :: 24 :: 25 :: []), [], 67108863⟩ :: []) true [1, 3, 2])
 (.seq (.seq (.region 2 [
  ⟨(some 29), none, .fld 0 (.t 1), [], [], 0⟩, 
  ⟨(some 30), none, .load none (.t 29), [], [], 0⟩] false [30, 1, 3, 2])
 (.cond (.t 30)
 (.region 3 (
  ⟨(some 31), none, .fld 1 (.t 1), [], [], 0⟩ :: 
  ⟨(some 32), none, .load none (.t 31), [], [], 0⟩ :: 
  ⟨(some 33), none, .conv .u32 (.t 32), [], [], 0⟩ :: 
  ⟨(some 34), none, .bin .shl (.t 33) (.c (.u64 8)), [], [], 0⟩ :: 
  ⟨(some 35), none, .fld 2 (.t 3), [], [], 0⟩ :: 
  ⟨none, none, .store none (.t 35) (.t 34), [], [], 0⟩ :: []) false [3, 2])
 (.region 4 (
  ⟨(some 36), none, .fld 1 (.t 1), [], [], 0⟩ :: 
  ⟨(some 37), none, .load none (.t 36), [0], [], 1⟩ :: 
  ⟨(some 38), none, .conv .u16 (.t 37), [1], [], 3⟩ :: 
  ⟨(some 39), none, .bin .shl (.t 38) (.c (.u64 8)), [2], [], 7⟩ :: 
  ⟨(some 40), none, .fld 2 (.t 1), [], [], 0⟩ :: 
  ⟨(some 41), none, .load none (.t 40), [4], [], 16⟩ :: 
  ⟨(some 42), none, .conv .u16 (.t 41), [5], [], 48⟩ :: 
  ⟨(some 43), none, .bin .or (.t 39) (.t 42), [3, 6], [], 127⟩ :: 
  ⟨(some 44), none, .fld 4 (.t 1), [], [], 0⟩ :: 
  ⟨(some 45), none, .load none (.t 44), [8], [], 256⟩ :: 
  ⟨(some 46), none, .bin .rem (.t 45) (.c (.u8 2)), [9], [], 768⟩ :: 
  ⟨(some 47), none, .conv .u16 (.t 46), [10], [], 1792⟩ :: 
  ⟨(some 48), none, .bin .shl (.t 47) (.c (.u64 14)), [11], [], 3840⟩ :: 
  ⟨(some 49), none, .fld 3 (.t 3), (0 :: 1 :: 2 :: 3 :: 4 :: 5 :: 6 :: 7 :: []), [], 255⟩ :: 
  ⟨none, none, .store none (.t 49) (.t 43), (13 :: 7 :: 0 :: 1 :: 2 :: 3 :: 4 :: 5 :: 6 :: 7 :: []), [9], 8447⟩ :: 
  ⟨(some 50), none, .fld 4 (.t 3), (0 :: 1 :: 2 :: 3 :: 4 :: 5 :: 6 :: 7 :: 8 :: 9 :: 10 :: 11 :: 12 :: 13 :: 14 :: []), [], 32767⟩ :: 
  ⟨none, none, .store none (.t 50) (.t 48), (15 :: 12 :: 14 :: 0 :: 1 :: 2 :: 3 :: 4 :: 5 :: 6 :: 7 :: 8 :: 9 :: 10 :: 11 :: 12 :: 13 :: 14 :: []), [], 65535⟩ :: []) true [3, 2])))
 (.seq (.region 5 [
  ⟨(some 51), none, .load (some 14) (.t 3), [], [], 0⟩, 
  ⟨none, none, .store (some 14) (.t 2) (.t 51), [], [], 0⟩] false [2])
 (.ret))))
def rs13 : List (Nat × Option (Option Nat)) := [(2, (some (some 14)))]

/-- towpath/packet.Put -/
def mc14 : MC := .seq (.region 0 [
  ⟨(some 1), none, .box (.t 0), [], [], 0⟩, 
  ⟨(some 2), none, .mv (.c .nil), [], [], 0⟩, 
  ⟨(some 3), none, .mv (.c (.n 0)), [], [], 0⟩] false [1])
 (.seq (.region 1 [
  ⟨(some 4), none, .mv (.c (.n 20)), [], [], 0⟩] false [1, 4])
 (.seq (.seq (.region 2 [
  ⟨(some 7), none, .fld 0 (.t 1), [], [], 0⟩, 
  ⟨(some 8), none, .load none (.t 7), [], [], 0⟩] false [8, 1, 4])
 (.cond (.t 8)
 (.region 3 [
  ⟨(some 4), none, .mv (.c (.n 40)), [], [], 0⟩] false [1, 4])
 (.skip)))
 (.seq (.block 0 (.seq (.region 4 [
  ⟨(some 10), none, .load (some 14) (.t 1), [], [], 0⟩, 
  ⟨(some 11), none, .call false 33 [((.t 10), none)], [], [], 0⟩, 
  ⟨(some 12), none, .un .not (.t 11), [], [], 0⟩, 
  ⟨(some 9), none, .mv (.t 12), [], [], 0⟩] false [9, 4, 1])
 (.cond (.t 9)
 (.seq (.region 5 [
  ⟨(some 2), none, .mv (.c .nil), [], [], 0⟩, 
  ⟨(some 3), none, .mv (.c (.n 20)), [], [], 0⟩] false [2, 3])
 (.ret))
 (.seq (.region 6 (
  ⟨(some 14), none, .mv (.t 4), [], [], 0⟩ :: 
  ⟨(some 15), none, .fld 13 (.t 1), [], [], 0⟩ :: 
  ⟨(some 16), none, .load none (.t 15), [], [], 0⟩ :: 
  ⟨(some 17), none, .lenS (.t 16), [], [], 0⟩ :: 
  ⟨(some 18), none, .bin .add (.t 14) (.t 17), [], [], 0⟩ :: 
  ⟨(some 19), none, .bin .gtr (.t 18) (.c (.n 1400)), [], [], 0⟩ :: 
  ⟨(some 13), none, .mv (.t 19), [], [], 0⟩ :: []) false [13, 1, 4])
 (.cond (.t 13)
 (.seq (.region 7 [
  ⟨(some 2), none, .mv (.c .nil), [], [], 0⟩, 
  ⟨(some 3), none, .mv (.c (.n 23)), [], [], 0⟩] false [2, 3])
 (.ret))
 (.seq (.region 8 [
  ⟨(some 21), none, .fld 0 (.t 1), [], [], 0⟩, 
  ⟨(some 22), none, .load none (.t 21), [], [], 0⟩, 
  ⟨(some 20), none, .mv (.t 22), [], [], 0⟩] false [20, 1, 4])
 (.cond (.t 20)
 (.seq (.region 9 (
  ⟨(some 23), none, .fld 1 (.t 1), [], [], 0⟩ :: 
  ⟨(some 24), none, .load none (.t 23), [], [], 0⟩ :: 
  ⟨(some 25), none, .conv .u64 (.t 24), [], [], 0⟩ :: 
  ⟨(some 26), none, .bin .shl (.t 25) (.c (.u64 20)), [], [], 0⟩ :: 
  ⟨(some 27), none, .bin .or (.c (.u64 1610612736)) (.t 26), [], [], 0⟩ :: 
  ⟨(some 28), none, .fld 2 (.t 1), [], [], 0⟩ :: 
  ⟨(some 29), none, .load none (.t 28), [], [], 0⟩ :: 
  ⟨(some 30), none, .conv .u64 (.t 29), [], [], 0⟩ :: 
  ⟨(some 31), none, .bin .or (.t 27) (.t 30), [], [], 0⟩ :: 
  ⟨(some 32), none, .call false 34 [((.t 31), none), ((.c (.n 4)), none)], [], [], 0⟩ :: 
  ⟨(some 5), none, .mv (.t 32), [], [], 0⟩ :: []) false [5, 1])
 (.seq (.region 10 (
  ⟨(some 33), none, .mv (.t 5), [], [], 0⟩ :: 
  ⟨(some 34), none, .fld 13 (.t 1), [], [], 0⟩ :: 
  ⟨(some 35), none, .load none (.t 34), [1], [], 2⟩ :: 
  ⟨(some 36), none, .lenS (.t 35), [2], [], 6⟩ :: 
  ⟨(some 37), none, .conv .u64 (.t 36), [3], [], 14⟩ :: 
  ⟨(some 38), none, .call false 34 [((.t 37), none), ((.c (.n 2)), none)], [4], [], 30⟩ :: 
  ⟨(some 39), none, .app .k8 [(.u8 0)] 1 (.t 33) (.t 38), [0, 5, 5], [], 63⟩ :: 
  ⟨(some 40), none, .fld 6 (.t 1), [], [], 0⟩ :: 
  ⟨(some 41), none, .load none (.t 40), [7], [5, 6], 128⟩ :: 
  ⟨(some 42), none, .fld 5 (.t 1), [], [], 0⟩ :: 
  ⟨(some 43), none, .load none (.t 42), [9], [5, 6], 512⟩ :: 
  ⟨(some 44), none, .bsl .k8 [(.t 41), (.t 43)], [8, 10], [2, 5, 6], 1920⟩ :: 
  ⟨(some 45), none, .app .k8 [(.u8 0)] 1 (.t 39) (.t 44), [6, 11, 6], [], 4095⟩ :: 
  ⟨(some 5), none, .mv (.t 45), (12 :: 12 :: 0 :: 1 :: 2 :: 3 :: 4 :: 5 :: 6 :: 7 :: 8 :: 9 :: 10 :: 11 :: 12 :: []), [], 8191⟩ :: []) true [5, 1])
 (.seq (.region 11 (
  ⟨(some 46), none, .mv (.t 5), [], [], 0⟩ :: 
  ⟨(some 47), none, .fld 7 (.t 1), [], [], 0⟩ :: 
  ⟨(some 48), none, .load (some 3) (.t 47), [1], [], 2⟩ :: 
  ⟨(some 49), none, .call false 36 [((.t 48), none)], [2], [], 6⟩ :: 
  ⟨(some 50), none, .fld 10 (.t 1), [], [], 0⟩ :: 
  ⟨(some 51), none, .load (some 3) (.t 50), [4], [3], 16⟩ :: 
  ⟨(some 52), none, .call false 36 [((.t 51), none)], [5, 3], [], 62⟩ :: 
  ⟨(some 53), none, .fld 13 (.t 1), [], [], 0⟩ :: 
  ⟨(some 54), none, .load none (.t 53), [7], [3, 6], 128⟩ :: 
  ⟨(some 55), none, .bsl .kg [(.t 46), (.t 49), (.t 52), (.t 54)], [0, 3, 6, 8], [], 511⟩ :: 
  ⟨(some 56), none, .call false 35 [((.t 55), (some .kb))], [9, 6], [], 1023⟩ :: 
  ⟨(some 2), none, .mv (.t 56), (10 :: 10 :: 0 :: 1 :: 2 :: 3 :: 4 :: 5 :: 6 :: 7 :: 8 :: 9 :: 10 :: []), [], 2047⟩ :: 
  ⟨(some 3), none, .mv (.c (.n 0)), (11 :: 0 :: 1 :: 2 :: 3 :: 4 :: 5 :: 6 :: 7 :: 8 :: 9 :: 10 :: 11 :: []), [], 4095⟩ :: []) true [2, 3])
 (.ret))))
 (.skip))))))))
 (.seq (.region 12 (
  ⟨(some 57), none, .fld 1 (.t 1), [], [], 0⟩ :: 
  ⟨(some 58), none, .load none (.t 57), [0], [], 1⟩ :: 
  ⟨(some 59), none, .bsl .k8 [(.c (.u8 69)), (.t 58)], [1], [], 3⟩ :: 
  ⟨(some 60), none, .mv (.t 4), [], [], 0⟩ :: 
  ⟨(some 61), none, .fld 13 (.t 1), [], [], 0⟩ :: 
  ⟨(some 62), none, .load none (.t 61), [4], [2], 16⟩ :: 
  ⟨(some 63), none, .lenS (.t 62), [5], [], 48⟩ :: 
  ⟨(some 64), none, .bin .add (.t 60) (.t 63), [3, 6], [], 120⟩ :: 
  ⟨(some 65), none, .conv .u64 (.t 64), [7], [], 248⟩ :: 
  ⟨(some 66), none, .call false 34 [((.t 65), none), ((.c (.n 2)), none)], [8], [1, 2], 504⟩ :: 
  ⟨(some 67), none, .app .k8 [(.u8 0)] 1 (.t 59) (.t 66), [2, 9, 9], [], 1023⟩ :: 
  ⟨(some 6), none, .mv (.t 67), (10 :: 10 :: 0 :: 1 :: 2 :: 3 :: 4 :: 5 :: 6 :: 7 :: 8 :: 9 :: 10 :: []), [], 2047⟩ :: []) true [6, 1])
 (.seq (.region 13 (
  ⟨(some 68), none, .mv (.t 6), [], [], 0⟩ :: 
  ⟨(some 69), none, .fld 3 (.t 1), [], [], 0⟩ :: 
  ⟨(some 70), none, .load none (.t 69), [1], [], 2⟩ :: 
  ⟨(some 71), none, .conv .u64 (.t 70), [2], [], 6⟩ :: 
  ⟨(some 72), none, .call false 34 [((.t 71), none), ((.c (.n 2)), none)], [3], [], 14⟩ :: 
  ⟨(some 73), none, .app .k8 [(.u8 0)] 1 (.t 68) (.t 72), [0, 4, 4], [], 31⟩ :: 
  ⟨(some 74), none, .fld 4 (.t 1), [], [], 0⟩ :: 
  ⟨(some 75), none, .load none (.t 74), [6], [4, 5], 64⟩ :: 
  ⟨(some 76), none, .conv .u64 (.t 75), [7], [], 192⟩ :: 
  ⟨(some 77), none, .call false 34 [((.t 76), none), ((.c (.n 2)), none)], [8, 5], [], 511⟩ :: 
  ⟨(some 78), none, .app .k8 [(.u8 0)] 1 (.t 73) (.t 77), [5, 9, 9], [], 1023⟩ :: 
  ⟨(some 6), none, .mv (.t 78), (10 :: 10 :: 0 :: 1 :: 2 :: 3 :: 4 :: 5 :: 6 :: 7 :: 8 :: 9 :: 10 :: []), [], 2047⟩ :: []) true [6, 1])
 (.seq (.region 14 (
  ⟨(some 79), none, .mv (.t 6), [], [], 0⟩ :: 
  ⟨(some 80), none, .fld 5 (.t 1), [], [], 0⟩ :: 
  ⟨(some 81), none, .load none (.t 80), [], [], 0⟩ :: 
  ⟨(some 82), none, .fld 6 (.t 1), [], [], 0⟩ :: 
  ⟨(some 83), none, .load none (.t 82), [], [], 0⟩ :: 
  ⟨(some 84), none, .bsl .k8 [(.t 81), (.t 83), (.c (.u8 0)), (.c (.u8 0))], [], [], 0⟩ :: 
  ⟨(some 85), none, .app .k8 [(.u8 0)] 1 (.t 79) (.t 84), [], [], 0⟩ :: 
  ⟨(some 6), none, .mv (.t 85), [], [], 0⟩ :: []) false [6, 1])
 (.seq (.region 15 (
  ⟨(some 86), none, .mv (.t 6), [], [], 0⟩ :: 
  ⟨(some 87), none, .fld 7 (.t 1), [], [], 0⟩ :: 
  ⟨(some 88), none, .load (some 3) (.t 87), [1], [], 2⟩ :: 
  ⟨(some 89), none, .call false 36 [((.t 88), none)], [2], [], 6⟩ :: 
  ⟨(some 90), none, .fld 10 (.t 1), [], [], 0⟩ :: 
  ⟨(some 91), none, .load (some 3) (.t 90), [4], [3], 16⟩ :: 
  ⟨(some 92), none, .call false 36 [((.t 91), none)], [5, 3], [], 62⟩ :: 
  ⟨(some 93), none, .fld 13 (.t 1), [], [], 0⟩ :: 
  ⟨(some 94), none, .load none (.t 93), [7], [3, 6], 128⟩ :: 
  ⟨(some 95), none, .bsl .kg [(.t 86), (.t 89), (.t 92), (.t 94)], [0, 3, 6, 8], [], 511⟩ :: 
  ⟨(some 96), none, .call false 35 [((.t 95), (some .kb))], [9, 6], [], 1023⟩ :: 
  ⟨(some 97), none, .call false 37 [((.t 96), (some .k8))], [10, 10], [], 2047⟩ :: 
  ⟨(some 2), none, .mv (.t 97), (11 :: 11 :: 0 :: 1 :: 2 :: 3 :: 4 :: 5 :: 6 :: 7 :: 8 :: 9 :: 10 :: 11 :: []), [], 4095⟩ :: 
  ⟨(some 3), none, .mv (.c (.n 0)), (12 :: 0 :: 1 :: 2 :: 3 :: 4 :: 5 :: 6 :: 7 :: 8 :: 9 :: 10 :: 11 :: 12 :: []), [], 8191⟩ :: []) true [2, 3])
 (.ret))))))))
def rs14 : List (Nat × Option (Option Nat)) := [(2, none), (3, none)]

/-- towpath/towpathref11.Put -/
def mc15 : MC := .seq (.region 0 [
  ⟨(some 1), none, .box (.t 0), [], [], 0⟩, 
  ⟨(some 2), none, .mv (.c .nil), [], [], 0⟩, 
  ⟨(some 3), none, .mv (.c (.n 0)), [], [], 0⟩] false (1 :: 15 :: 16 :: 18 :: 17 :: 19 :: 20 :: 23 :: 24 :: 25 :: 26 :: 29 :: 30 :: 31 :: 32 :: 35 :: 36 :: 37 :: 41 :: 42 :: 43 :: 44 :: 45 :: 46 :: 47 :: 48 :: 49 :: 50 :: 51 :: 52 :: 55 :: 56 :: 57 :: 58 :: 59 :: 60 :: 61 :: 62 :: []))
 (.seq (.region 1 (
  ⟨(some 8), none, .fld 7 (.t 1), [], [], 0⟩ :: 
  ⟨(some 9), none, .fld 0 (.t 8), [], [], 0⟩ :: 
  ⟨(some 10), none, .load none (.t 9), [], [], 0⟩ :: 
  ⟨(some 11), none, .fld 0 (.t 1), [], [], 0⟩ :: 
  ⟨(some 12), none, .load none (.t 11), [], [], 0⟩ :: 
  ⟨(some 13), none, .binB .neq (.t 10) (.t 12), [], [], 0⟩ :: 
  ⟨(some 14), none, .mv (.t 13), [], [], 0⟩ :: 
  ⟨(some 15), (some (14, false)), .fld 10 (.t 1), [], [], 0⟩ :: 
  ⟨(some 16), (some (14, false)), .fld 0 (.t 15), [], [], 0⟩ :: 
  ⟨(some 17), (some (14, false)), .load none (.t 16), [], [], 0⟩ :: 
  ⟨(some 18), (some (14, false)), .fld 0 (.t 1), [], [], 0⟩ :: 
  ⟨(some 19), (some (14, false)), .load none (.t 18), [], [], 0⟩ :: 
  ⟨(some 20), (some (14, false)), .binB .neq (.t 17) (.t 19), [], [], 0⟩ :: 
  ⟨(some 21), none, .pick (.t 14) (.c (.bool true)) (.t 20), [], [], 0⟩ :: 
  ⟨(some 22), none, .mv (.t 21), [], [], 0⟩ :: 
  ⟨(some 23), (some (22, false)), .fld 7 (.t 1), [], [], 0⟩ :: 
  ⟨(some 24), (some (22, false)), .load (some 3) (.t 23), [], [], 0⟩ :: 
  ⟨(some 25), (some (22, false)), .call false 38 [((.t 24), none)], [], [], 0⟩ :: 
  ⟨(some 26), (some (22, false)), .un .not (.t 25), [], [], 0⟩ :: 
  ⟨(some 27), none, .pick (.t 22) (.c (.bool true)) (.t 26), [], [], 0⟩ :: 
  ⟨(some 28), none, .mv (.t 27), [], [], 0⟩ :: 
  ⟨(some 29), (some (28, false)), .fld 10 (.t 1), [], [], 0⟩ :: 
  ⟨(some 30), (some (28, false)), .load (some 3) (.t 29), [], [], 0⟩ :: 
  ⟨(some 31), (some (28, false)), .call false 38 [((.t 30), none)], [], [], 0⟩ :: 
  ⟨(some 32), (some (28, false)), .un .not (.t 31), [], [], 0⟩ :: 
  ⟨(some 33), none, .pick (.t 28) (.c (.bool true)) (.t 32), [], [], 0⟩ :: 
  ⟨(some 34), none, .mv (.t 33), [], [], 0⟩ :: 
  ⟨(some 35), (some (34, false)), .fld 2 (.t 1), [], [], 0⟩ :: 
  ⟨(some 36), (some (34, false)), .load none (.t 35), [], [], 0⟩ :: 
  ⟨(some 37), (some (34, false)), .bin .geq (.t 36) (.c (.u32 1048576)), [], [], 0⟩ :: 
  ⟨(some 38), none, .pick (.t 34) (.c (.bool true)) (.t 37), [], [], 0⟩ :: 
  ⟨(some 4), none, .mv (.t 38), [], [], 0⟩ :: []) false (4 :: 1 :: 41 :: 42 :: 43 :: 44 :: 45 :: 46 :: 47 :: 48 :: 49 :: 50 :: 51 :: 52 :: 55 :: 56 :: 57 :: 58 :: 59 :: 60 :: 61 :: 62 :: []))
 (.seq (.seq (.region 2 (
  ⟨(some 39), none, .mv (.t 4), [], [], 0⟩ :: 
  ⟨(some 40), none, .mv (.t 39), [], [], 0⟩ :: 
  ⟨(some 41), (some (40, false)), .fld 0 (.t 1), [], [], 0⟩ :: 
  ⟨(some 42), (some (40, false)), .load none (.t 41), [], [], 0⟩ :: 
  ⟨(some 43), (some (40, false)), .mv (.t 42), [], [], 0⟩ :: 
  ⟨(some 44), (some (43, true)), .fld 3 (.t 1), [], [], 0⟩ :: 
  ⟨(some 45), (some (43, true)), .load none (.t 44), [], [], 0⟩ :: 
  ⟨(some 46), (some (43, true)), .bin .neq (.t 45) (.c (.u16 0)), [], [], 0⟩ :: 
  ⟨(some 47), (some (43, true)), .mv (.t 46), [], [], 0⟩ :: 
  ⟨(some 48), (some (47, false)), .fld 4 (.t 1), [], [], 0⟩ :: 
  ⟨(some 49), (some (47, false)), .load none (.t 48), [], [], 0⟩ :: 
  ⟨(some 50), (some (47, false)), .bin .neq (.t 49) (.c (.u16 0)), [], [], 0⟩ :: 
  ⟨(some 51), (some (43, true)), .pick (.t 47) (.c (.bool true)) (.t 50), [], [], 0⟩ :: 
  ⟨(some 52), (some (40, false)), .pick (.t 43) (.t 51) (.c (.bool false)), [], [], 0⟩ :: 
  ⟨(some 53), none, .pick (.t 40) (.c (.bool true)) (.t 52), [], [], 0⟩ :: 
  ⟨(some 54), none, .mv (.t 53), [], [], 0⟩ :: 
  ⟨(some 55), (some (54, false)), .fld 0 (.t 1), [], [], 0⟩ :: 
  ⟨(some 56), (some (54, false)), .load none (.t 55), [], [], 0⟩ :: 
  ⟨(some 57), (some (54, false)), .un .not (.t 56), [], [], 0⟩ :: 
  ⟨(some 58), (some (54, false)), .mv (.t 57), [], [], 0⟩ :: 
  ⟨(some 59), (some (58, true)), .fld 2 (.t 1), [], [], 0⟩ :: 
  ⟨(some 60), (some (58, true)), .load none (.t 59), [], [], 0⟩ :: 
  ⟨(some 61), (some (58, true)), .bin .neq (.t 60) (.c (.u32 0)), [], [], 0⟩ :: 
  ⟨(some 62), (some (54, false)), .pick (.t 58) (.t 61) (.c (.bool false)), [], [], 0⟩ :: 
  ⟨(some 63), none, .pick (.t 54) (.c (.bool true)) (.t 62), [], [], 0⟩ :: []) false [63, 1])
 (.cond (.t 63)
 (.seq (.region 3 [
  ⟨(some 2), none, .mv (.c .nil), [], [], 0⟩, 
  ⟨(some 3), none, .mv (.c (.n 20)), [], [], 0⟩] false [2, 3])
 (.ret))
 (.skip)))
 (.seq (.seq (.region 4 [
  ⟨(some 64), none, .fld 0 (.t 1), [], [], 0⟩, 
  ⟨(some 65), none, .load none (.t 64), [], [], 0⟩] false [65, 1])
 (.cond (.t 65)
 (.seq (.seq (.region 5 [
  ⟨(some 66), none, .fld 13 (.t 1), [], [], 0⟩, 
  ⟨(some 67), none, .load none (.t 66), [], [], 0⟩, 
  ⟨(some 68), none, .lenS (.t 67), [], [], 0⟩, 
  ⟨(some 69), none, .bin .add (.c (.n 40)) (.t 68), [], [], 0⟩, 
  ⟨(some 70), none, .bin .gtr (.t 69) (.c (.n 1400)), [], [], 0⟩] false [70, 1])
 (.cond (.t 70)
 (.seq (.region 6 [
  ⟨(some 2), none, .mv (.c .nil), [], [], 0⟩, 
  ⟨(some 3), none, .mv (.c (.n 23)), [], [], 0⟩] false [2, 3])
 (.ret))
 (.skip)))
 (.seq (.region 7 (
  ⟨(some 71), none, .fld 1 (.t 1), [], [], 0⟩ :: 
  ⟨(some 72), none, .load none (.t 71), [], [], 0⟩ :: 
  ⟨(some 73), none, .conv .u64 (.t 72), [], [], 0⟩ :: 
  ⟨(some 74), none, .bin .shl (.t 73) (.c (.u64 20)), [], [], 0⟩ :: 
  ⟨(some 75), none, .bin .or (.c (.u64 1610612736)) (.t 74), [], [], 0⟩ :: 
  ⟨(some 76), none, .fld 2 (.t 1), [], [], 0⟩ :: 
  ⟨(some 77), none, .load none (.t 76), [], [], 0⟩ :: 
  ⟨(some 78), none, .conv .u64 (.t 77), [], [], 0⟩ :: 
  ⟨(some 79), none, .bin .or (.t 75) (.t 78), [], [], 0⟩ :: 
  ⟨(some 80), none, .call false 39 [((.c .nil), (some .k8)), ((.t 79), none), ((.c (.n 4)), none)], [], [], 0⟩ :: 
  ⟨(some 5), none, .mv (.t 80), [], [], 0⟩ :: []) false [5, 1])
 (.seq (.region 8 (
  ⟨(some 81), none, .mv (.t 5), [], [], 0⟩ :: 
  ⟨(some 82), none, .fld 13 (.t 1), [], [], 0⟩ :: 
  ⟨(some 83), none, .load none (.t 82), [1], [], 2⟩ :: 
  ⟨(some 84), none, .lenS (.t 83), [2], [], 6⟩ :: 
  ⟨(some 85), none, .conv .u64 (.t 84), [3], [], 14⟩ :: 
  ⟨(some 86), none, .call false 39 [((.t 81), (some .k8)), ((.t 85), none), ((.c (.n 2)), none)], [0, 4], [], 31⟩ :: 
  ⟨(some 87), none, .fld 6 (.t 1), [], [], 0⟩ :: 
  ⟨(some 88), none, .load none (.t 87), [6], [5], 64⟩ :: 
  ⟨(some 89), none, .fld 5 (.t 1), [], [], 0⟩ :: 
  ⟨(some 90), none, .load none (.t 89), [8], [5], 256⟩ :: 
  ⟨(some 91), none, .bsl .k8 [(.t 88), (.t 90)], [7, 9], [2, 5], 960⟩ :: 
  ⟨(some 92), none, .app .k8 [(.u8 0)] 1 (.t 86) (.t 91), [5, 10, 5], [], 2047⟩ :: 
  ⟨(some 5), none, .mv (.t 92), (11 :: 11 :: 0 :: 1 :: 2 :: 3 :: 4 :: 5 :: 6 :: 7 :: 8 :: 9 :: 10 :: 11 :: []), [], 4095⟩ :: []) true [5, 1])
 (.seq (.region 9 (
  ⟨(some 93), none, .mv (.t 5), [], [], 0⟩ :: 
  ⟨(some 94), none, .fld 7 (.t 1), [], [], 0⟩ :: 
  ⟨(some 95), none, .load (some 3) (.t 94), [1], [], 2⟩ :: 
  ⟨(some 96), none, .call false 40 [((.t 93), (some .k8)), ((.t 95), none)], [0, 2], [], 7⟩ :: 
  ⟨(some 97), none, .fld 10 (.t 1), [], [], 0⟩ :: 
  ⟨(some 98), none, .load (some 3) (.t 97), [4], [3], 16⟩ :: 
  ⟨(some 99), none, .call false 40 [((.t 96), (some .k8)), ((.t 98), none)], [3, 5, 3], [], 63⟩ :: 
  ⟨(some 100), none, .fld 13 (.t 1), [], [], 0⟩ :: 
  ⟨(some 101), none, .load none (.t 100), [7], [3, 6], 128⟩ :: 
  ⟨(some 102), none, .app .k8 [(.u8 0)] 1 (.t 99) (.t 101), [6, 8, 6], [], 511⟩ :: 
  ⟨(some 2), none, .mv (.t 102), (9 :: 9 :: 0 :: 1 :: 2 :: 3 :: 4 :: 5 :: 6 :: 7 :: 8 :: 9 :: []), [], 1023⟩ :: 
  ⟨(some 3), none, .mv (.c (.n 0)), (10 :: 0 :: 1 :: 2 :: 3 :: 4 :: 5 :: 6 :: 7 :: 8 :: 9 :: 10 :: []), [], 2047⟩ :: []) true [2, 3])
 (.ret)))))
 (.skip)))
 (.seq (.seq (.region 10 [
  ⟨(some 103), none, .fld 13 (.t 1), [], [], 0⟩, 
  ⟨(some 104), none, .load none (.t 103), [], [], 0⟩, 
  ⟨(some 105), none, .lenS (.t 104), [], [], 0⟩, 
  ⟨(some 106), none, .bin .add (.c (.n 20)) (.t 105), [], [], 0⟩, 
  ⟨(some 107), none, .bin .gtr (.t 106) (.c (.n 1400)), [], [], 0⟩] false [107, 1])
 (.cond (.t 107)
 (.seq (.region 11 [
  ⟨(some 2), none, .mv (.c .nil), [], [], 0⟩, 
  ⟨(some 3), none, .mv (.c (.n 23)), [], [], 0⟩] false [2, 3])
 (.ret))
 (.skip)))
 (.seq (.region 12 (
  ⟨(some 108), none, .fld 1 (.t 1), [], [], 0⟩ :: 
  ⟨(some 109), none, .load none (.t 108), [], [], 0⟩ :: 
  ⟨(some 110), none, .bsl .k8 [(.c (.u8 69)), (.t 109)], [], [], 0⟩ :: 
  ⟨(some 111), none, .fld 13 (.t 1), [], [], 0⟩ :: 
  ⟨(some 112), none, .load none (.t 111), [], [], 0⟩ :: 
  ⟨(some 113), none, .lenS (.t 112), [], [], 0⟩ :: 
  ⟨(some 114), none, .bin .add (.c (.n 20)) (.t 113), [], [], 0⟩ :: 
  ⟨(some 115), none, .conv .u64 (.t 114), [], [], 0⟩ :: 
  ⟨(some 116), none, .call false 39 [((.t 110), (some .k8)), ((.t 115), none), ((.c (.n 2)), none)], [], [], 0⟩ :: 
  ⟨(some 6), none, .mv (.t 116), [], [], 0⟩ :: []) false [6, 1])
 (.seq (.region 13 (
  ⟨(some 117), none, .mv (.t 6), [], [], 0⟩ :: 
  ⟨(some 118), none, .fld 3 (.t 1), [], [], 0⟩ :: 
  ⟨(some 119), none, .load none (.t 118), [1], [], 2⟩ :: 
  ⟨(some 120), none, .conv .u64 (.t 119), [2], [], 6⟩ :: 
  ⟨(some 121), none, .call false 39 [((.t 117), (some .k8)), ((.t 120), none), ((.c (.n 2)), none)], [0, 3], [], 15⟩ :: 
  ⟨(some 122), none, .fld 4 (.t 1), [], [], 0⟩ :: 
  ⟨(some 123), none, .load none (.t 122), [5], [4], 32⟩ :: 
  ⟨(some 124), none, .conv .u64 (.t 123), [6], [], 96⟩ :: 
  ⟨(some 125), none, .call false 39 [((.t 121), (some .k8)), ((.t 124), none), ((.c (.n 2)), none)], [4, 7, 4], [], 255⟩ :: 
  ⟨(some 6), none, .mv (.t 125), (8 :: 8 :: 0 :: 1 :: 2 :: 3 :: 4 :: 5 :: 6 :: 7 :: 8 :: []), [], 511⟩ :: []) true [6, 1])
 (.seq (.region 14 (
  ⟨(some 126), none, .mv (.t 6), [], [], 0⟩ :: 
  ⟨(some 127), none, .fld 5 (.t 1), [], [], 0⟩ :: 
  ⟨(some 128), none, .load none (.t 127), [], [], 0⟩ :: 
  ⟨(some 129), none, .fld 6 (.t 1), [], [], 0⟩ :: 
  ⟨(some 130), none, .load none (.t 129), [], [], 0⟩ :: 
  ⟨(some 131), none, .bsl .k8 [(.t 128), (.t 130), (.c (.u8 0)), (.c (.u8 0))], [], [], 0⟩ :: 
  ⟨(some 132), none, .app .k8 [(.u8 0)] 1 (.t 126) (.t 131), [], [], 0⟩ :: 
  ⟨(some 6), none, .mv (.t 132), [], [], 0⟩ :: []) false [6, 1])
 (.seq (.region 15 (
  ⟨(some 133), none, .mv (.t 6), [], [], 0⟩ :: 
  ⟨(some 134), none, .fld 7 (.t 1), [], [], 0⟩ :: 
  ⟨(some 135), none, .load (some 3) (.t 134), [1], [], 2⟩ :: 
  ⟨(some 136), none, .call false 40 [((.t 133), (some .k8)), ((.t 135), none)], [0, 2], [], 7⟩ :: 
  ⟨(some 137), none, .fld 10 (.t 1), [], [], 0⟩ :: 
  ⟨(some 138), none, .load (some 3) (.t 137), [4], [3], 16⟩ :: 
  ⟨(some 139), none, .call false 40 [((.t 136), (some .k8)), ((.t 138), none)], [3, 5, 3], [], 63⟩ :: 
  ⟨(some 6), none, .mv (.t 139), (6 :: 6 :: 0 :: 1 :: 2 :: 3 :: 4 :: 5 :: 6 :: []), [], 127⟩ :: []) true [6, 1])
 (.seq (.region 16 [
  ⟨(some 140), none, .mv (.t 6), [], [], 0⟩, 
  ⟨(some 141), none, .call false 23 [((.t 140), (some .k8))], [], [], 0⟩, 
  ⟨(some 7), none, .mv (.t 141), [], [], 0⟩] false [6, 7, 1])
 (.seq (.region 17 (
  ⟨(some 142), none, .mv (.t 6), [], [], 0⟩ :: 
  ⟨(some 143), none, .mv (.t 6), [], [], 0⟩ :: 
  ⟨(some 144), none, .mv (.t 7), [], [], 0⟩ :: 
  ⟨(some 145), none, .bin .shr (.t 144) (.c (.u64 8)), [], [], 0⟩ :: 
  ⟨(some 146), none, .conv .u8 (.t 145), [], [], 0⟩ :: 
  ⟨(some 147), none, .mv (.t 7), [], [], 0⟩ :: 
  ⟨(some 148), none, .conv .u8 (.t 147), [], [], 0⟩ :: 
  ⟨(some 149), none, .idxS 1 (.t 142) (.c (.n 10)), [], [], 0⟩ :: 
  ⟨none, none, .store none (.t 149) (.t 146), [], [], 0⟩ :: 
  ⟨(some 150), none, .idxS 1 (.t 143) (.c (.n 11)), [], [], 0⟩ :: 
  ⟨none, none, .store none (.t 150) (.t 148), [], [], 0⟩ :: []) false [6, 1])
 (.seq (.region 18 (
  ⟨(some 151), none, .mv (.t 6), [], [], 0⟩ :: 
  ⟨(some 152), none, .fld 13 (.t 1), [], [], 0⟩ :: 
  ⟨(some 153), none, .load none (.t 152), [], [], 0⟩ :: 
  ⟨(some 154), none, .app .k8 [(.u8 0)] 1 (.t 151) (.t 153), [], [], 0⟩ :: 
  ⟨(some 2), none, .mv (.t 154), [], [], 0⟩ :: 
  ⟨(some 3), none, .mv (.c (.n 0)), [], [], 0⟩ :: []) false [2, 3])
 (.ret))))))))))))
def rs15 : List (Nat × Option (Option Nat)) := [(2, none), (3, none)]

/-- towpath/packet.Parse -/
def mc16 : MC := .seq (.region 0 [
  ⟨(some 2), none, .alloc (.gen ((.bool false) :: (.u8 0) :: (.u32 0) :: (.u16 0) :: (.u16 0) :: (.u8 0) :: (.u8 0) :: (.bool false) :: (.u64 0) :: (.u64 0) :: (.bool false) :: (.u64 0) :: (.u64 0) :: .nil :: [])), [], [], 0⟩, 
  ⟨(some 3), none, .mv (.c (.n 0)), [], [], 0⟩] false (0 :: 2 :: 14 :: 15 :: 16 :: 17 :: 18 :: []))
 (.seq (.block 0 (.seq (.region 1 [
  ⟨(some 5), none, .mv (.t 0), [], [], 0⟩, 
  ⟨(some 6), none, .lenS (.t 5), [], [], 0⟩, 
  ⟨(some 7), none, .bin .gtr (.t 6) (.c (.n 1400)), [], [], 0⟩, 
  ⟨(some 4), none, .mv (.t 7), [], [], 0⟩] false (4 :: 2 :: 0 :: 14 :: 15 :: 16 :: 17 :: 18 :: []))
 (.cond (.t 4)
 (.seq (.region 2 [
  ⟨(some 8), none, .bldz .kg ((.bool false) :: (.u8 0) :: (.u32 0) :: (.u16 0) :: (.u16 0) :: (.u8 0) :: (.u8 0) :: (.bool false) :: (.u64 0) :: (.u64 0) :: (.bool false) :: (.u64 0) :: (.u64 0) :: .nil :: []) [], [], [], 0⟩, 
  ⟨none, none, .store (some 14) (.t 2) (.t 8), [], [], 0⟩, 
  ⟨(some 3), none, .mv (.c (.n 23)), [], [], 0⟩] false [2, 3])
 (.ret))
 (.seq (.region 3 (
  ⟨(some 10), none, .mv (.t 0), [], [], 0⟩ :: 
  ⟨(some 11), none, .lenS (.t 10), [], [], 0⟩ :: 
  ⟨(some 12), none, .bin .gtr (.t 11) (.c (.n 0)), [], [], 0⟩ :: 
  ⟨(some 13), none, .mv (.t 12), [], [], 0⟩ :: 
  ⟨(some 14), (some (13, true)), .mv (.t 0), [], [], 0⟩ :: 
  ⟨(some 15), (some (13, true)), .idxS 1 (.t 14) (.c (.n 0)), [], [], 0⟩ :: 
  ⟨(some 16), (some (13, true)), .load none (.t 15), [], [], 0⟩ :: 
  ⟨(some 17), (some (13, true)), .bin .shr (.t 16) (.c (.u64 4)), [], [], 0⟩ :: 
  ⟨(some 18), (some (13, true)), .bin .eql (.t 17) (.c (.u8 6)), [], [], 0⟩ :: 
  ⟨(some 19), none, .pick (.t 13) (.t 18) (.c (.bool false)), [], [], 0⟩ :: 
  ⟨(some 9), none, .mv (.t 19), [], [], 0⟩ :: []) false [9, 0, 2])
 (.cond (.t 9)
 (.seq (.region 4 (
  ⟨(some 20), none, .mv (.t 0), [], [], 0⟩ :: 
  ⟨(some 21), none, .call false 41 [((.t 20), (some .k8))], [], [], 0⟩ :: 
  ⟨(some 22), none, .ext 0 (.t 21), [], [], 0⟩ :: 
  ⟨(some 23), none, .ext 1 (.t 21), [], [], 0⟩ :: 
  ⟨none, none, .store (some 14) (.t 2) (.t 22), [], [], 0⟩ :: 
  ⟨(some 3), none, .mv (.t 23), [], [], 0⟩ :: []) false [2, 3])
 (.ret))
 (.skip))))))
 (.seq (.region 5 (
  ⟨(some 24), none, .mv (.t 0), [], [], 0⟩ :: 
  ⟨(some 25), none, .call false 42 [((.t 24), (some .k8))], [], [], 0⟩ :: 
  ⟨(some 26), none, .ext 0 (.t 25), [], [], 0⟩ :: 
  ⟨(some 27), none, .ext 1 (.t 25), [], [], 0⟩ :: 
  ⟨none, none, .store (some 14) (.t 2) (.t 26), [], [], 0⟩ :: 
  ⟨(some 3), none, .mv (.t 27), [], [], 0⟩ :: []) false [2, 3])
 (.ret)))
def rs16 : List (Nat × Option (Option Nat)) := [(2, (some (some 14))), (3, none)]

/-- towpath/packet.Hop -/
def mc17 : MC := .seq (.region 0 [
  ⟨(some 2), none, .mv (.c .nil), [], [], 0⟩, 
  ⟨(some 3), none, .mv (.c (.bool false)), [], [], 0⟩] false [0, 15, 16, 17])
 (.seq (.region 1 (
  ⟨(some 8), none, .mv (.t 0), [], [], 0⟩ :: 
  ⟨(some 9), none, .call false 16 [((.t 8), (some .k8))], [], [], 0⟩ :: 
  ⟨(some 7), none, .mv (.t 9), [], [], 0⟩ :: 
  ⟨(some 10), none, .ext 0 (.t 7), [], [], 0⟩ :: 
  ⟨(some 11), none, .ext 1 (.t 7), [], [], 0⟩ :: 
  ⟨(some 4), none, .alloc (.gen ((.bool false) :: (.u8 0) :: (.u32 0) :: (.u16 0) :: (.u16 0) :: (.u8 0) :: (.u8 0) :: (.bool false) :: (.u64 0) :: (.u64 0) :: (.bool false) :: (.u64 0) :: (.u64 0) :: .nil :: [])), [], [], 0⟩ :: 
  ⟨none, none, .store (some 14) (.t 4) (.t 10), [], [], 0⟩ :: 
  ⟨(some 5), none, .mv (.t 11), [], [], 0⟩ :: []) false (5 :: 4 :: 15 :: 16 :: 17 :: 0 :: []))
 (.seq (.seq (.region 2 (
  ⟨(some 12), none, .mv (.t 5), [], [], 0⟩ :: 
  ⟨(some 13), none, .bin .neq (.t 12) (.c (.n 0)), [], [], 0⟩ :: 
  ⟨(some 14), none, .mv (.t 13), [], [], 0⟩ :: 
  ⟨(some 15), (some (14, false)), .fld 5 (.t 4), [], [], 0⟩ :: 
  ⟨(some 16), (some (14, false)), .load none (.t 15), [], [], 0⟩ :: 
  ⟨(some 17), (some (14, false)), .bin .leq (.t 16) (.c (.u8 1)), [], [], 0⟩ :: 
  ⟨(some 18), none, .pick (.t 14) (.c (.bool true)) (.t 17), [], [], 0⟩ :: []) false [18, 0, 4])
 (.cond (.t 18)
 (.seq (.region 3 [
  ⟨(some 2), none, .mv (.c .nil), [], [], 0⟩, 
  ⟨(some 3), none, .mv (.c (.bool false)), [], [], 0⟩] false [2, 3])
 (.ret))
 (.skip)))
 (.seq (.region 4 [
  ⟨(some 19), none, .mv (.t 0), [], [], 0⟩, 
  ⟨(some 20), none, .call false 43 [((.t 19), (some .k8))], [], [], 0⟩, 
  ⟨(some 6), none, .mv (.t 20), [], [], 0⟩] false [4, 6])
 (.seq (.seq (.region 5 [
  ⟨(some 21), none, .fld 0 (.t 4), [], [], 0⟩, 
  ⟨(some 22), none, .load none (.t 21), [], [], 0⟩] false [22, 6])
 (.cond (.t 22)
 (.seq (.region 6 (
  ⟨(some 23), none, .mv (.t 6), [], [], 0⟩ :: 
  ⟨(some 24), none, .idxS 1 (.t 23) (.c (.n 7)), [], [], 0⟩ :: 
  ⟨(some 25), none, .load none (.t 24), [], [], 0⟩ :: 
  ⟨(some 26), none, .bin .sub (.t 25) (.c (.u8 1)), [], [], 0⟩ :: 
  ⟨(some 27), none, .idxS 1 (.t 23) (.c (.n 7)), [], [], 0⟩ :: 
  ⟨none, none, .store none (.t 27) (.t 26), [], [], 0⟩ :: []) false [6])
 (.seq (.region 7 [
  ⟨(some 28), none, .mv (.t 6), [], [], 0⟩, 
  ⟨(some 2), none, .mv (.t 28), [], [], 0⟩, 
  ⟨(some 3), none, .mv (.c (.bool true)), [], [], 0⟩] false [2, 3])
 (.ret)))
 (.skip)))
 (.seq (.region 8 (
  ⟨(some 29), none, .mv (.t 6), [], [], 0⟩ :: 
  ⟨(some 30), none, .idxS 1 (.t 29) (.c (.n 8)), [], [], 0⟩ :: 
  ⟨(some 31), none, .load none (.t 30), [], [], 0⟩ :: 
  ⟨(some 32), none, .bin .sub (.t 31) (.c (.u8 1)), [], [], 0⟩ :: 
  ⟨(some 33), none, .idxS 1 (.t 29) (.c (.n 8)), [], [], 0⟩ :: 
  ⟨none, none, .store none (.t 33) (.t 32), [], [], 0⟩ :: []) false [6])
 (.seq (.region 9 [
  ⟨(some 34), none, .mv (.t 6), [], [], 0⟩, 
  ⟨(some 35), none, .call false 37 [((.t 34), (some .k8))], [], [], 0⟩, 
  ⟨(some 2), none, .mv (.t 35), [], [], 0⟩, 
  ⟨(some 3), none, .mv (.c (.bool true)), [], [], 0⟩] false [2, 3])
 (.ret)))))))
def rs17 : List (Nat × Option (Option Nat)) := [(2, none), (3, none)]

/-- towpath/towpathref11.Hop -/
def mc18 : MC := .seq (.region 0 [
  ⟨(some 2), none, .mv (.c .nil), [], [], 0⟩, 
  ⟨(some 3), none, .mv (.c (.bool false)), [], [], 0⟩] false [0, 16, 17, 18])
 (.seq (.region 1 (
  ⟨(some 9), none, .mv (.t 0), [], [], 0⟩ :: 
  ⟨(some 10), none, .call false 21 [((.t 9), (some .k8))], [], [], 0⟩ :: 
  ⟨(some 8), none, .mv (.t 10), [], [], 0⟩ :: 
  ⟨(some 11), none, .ext 0 (.t 8), [], [], 0⟩ :: 
  ⟨(some 12), none, .ext 1 (.t 8), [], [], 0⟩ :: 
  ⟨(some 4), none, .alloc (.gen ((.bool false) :: (.u8 0) :: (.u32 0) :: (.u16 0) :: (.u16 0) :: (.u8 0) :: (.u8 0) :: (.bool false) :: (.u64 0) :: (.u64 0) :: (.bool false) :: (.u64 0) :: (.u64 0) :: .nil :: [])), [], [], 0⟩ :: 
  ⟨none, none, .store (some 14) (.t 4) (.t 11), [], [], 0⟩ :: 
  ⟨(some 5), none, .mv (.t 12), [], [], 0⟩ :: []) false [5, 4, 16, 17, 18])
 (.seq (.seq (.region 2 (
  ⟨(some 13), none, .mv (.t 5), [], [], 0⟩ :: 
  ⟨(some 14), none, .bin .neq (.t 13) (.c (.n 0)), [], [], 0⟩ :: 
  ⟨(some 15), none, .mv (.t 14), [], [], 0⟩ :: 
  ⟨(some 16), (some (15, false)), .fld 5 (.t 4), [], [], 0⟩ :: 
  ⟨(some 17), (some (15, false)), .load none (.t 16), [], [], 0⟩ :: 
  ⟨(some 18), (some (15, false)), .bin .lss (.t 17) (.c (.u8 2)), [], [], 0⟩ :: 
  ⟨(some 19), none, .pick (.t 15) (.c (.bool true)) (.t 18), [], [], 0⟩ :: []) false [19, 4])
 (.cond (.t 19)
 (.seq (.region 3 [
  ⟨(some 2), none, .mv (.c .nil), [], [], 0⟩, 
  ⟨(some 3), none, .mv (.c (.bool false)), [], [], 0⟩] false [2, 3])
 (.ret))
 (.skip)))
 (.seq (.region 4 [
  ⟨(some 20), none, .fld 5 (.t 4), [], [], 0⟩, 
  ⟨(some 21), none, .load none (.t 20), [], [], 0⟩, 
  ⟨(some 22), none, .bin .sub (.t 21) (.c (.u8 1)), [], [], 0⟩, 
  ⟨(some 23), none, .fld 5 (.t 4), [], [], 0⟩, 
  ⟨none, none, .store none (.t 23) (.t 22), [], [], 0⟩] false [4])
 (.seq (.region 5 (
  ⟨(some 25), none, .load (some 14) (.t 4), [], [], 0⟩ :: 
  ⟨(some 26), none, .call false 15 [((.t 25), none)], [], [], 0⟩ :: 
  ⟨(some 24), none, .mv (.t 26), [], [], 0⟩ :: 
  ⟨(some 27), none, .ext 0 (.t 24), [], [], 0⟩ :: 
  ⟨(some 28), none, .ext 1 (.t 24), [], [], 0⟩ :: 
  ⟨(some 6), none, .mv (.t 27), [], [], 0⟩ :: 
  ⟨(some 7), none, .mv (.t 28), [], [], 0⟩ :: []) false [6])
 (.seq (.region 6 [
  ⟨(some 29), none, .mv (.t 6), [], [], 0⟩, 
  ⟨(some 2), none, .mv (.t 29), [], [], 0⟩, 
  ⟨(some 3), none, .mv (.c (.bool true)), [], [], 0⟩] false [2, 3])
 (.ret))))))
def rs18 : List (Nat × Option (Option Nat)) := [(2, none), (3, none)]

/-- towpath/towpathhelp.Packet -/
def mc19 : MC := .seq (.region 0 [
  ⟨(some 2), none, .box (.t 0), [], [], 0⟩, 
  ⟨(some 3), none, .box (.t 1), [], [], 0⟩, 
  ⟨(some 4), none, .mv (.c (.bool false)), [], [], 0⟩] false (2 :: 3 :: 11 :: 13 :: 12 :: 14 :: 15 :: 18 :: 20 :: 19 :: 21 :: 22 :: 25 :: 27 :: 26 :: 28 :: 29 :: 32 :: 34 :: 33 :: 35 :: 36 :: 39 :: 41 :: 40 :: 42 :: 43 :: 46 :: 48 :: 47 :: 49 :: 50 :: 53 :: 55 :: 54 :: 56 :: 57 :: 60 :: 62 :: 61 :: 63 :: 64 :: 67 :: 68 :: 70 :: 71 :: 69 :: 72 :: 73 :: []))
 (.seq (.region 1 (
  ⟨(some 5), none, .fld 0 (.t 2), [], [], 0⟩ :: 
  ⟨(some 6), none, .load none (.t 5), [], [], 0⟩ :: 
  ⟨(some 7), none, .fld 0 (.t 3), [], [], 0⟩ :: 
  ⟨(some 8), none, .load none (.t 7), [], [], 0⟩ :: 
  ⟨(some 9), none, .binB .eql (.t 6) (.t 8), [], [], 0⟩ :: 
  ⟨(some 10), none, .mv (.t 9), [], [], 0⟩ :: 
  ⟨(some 11), (some (10, true)), .fld 1 (.t 2), [], [], 0⟩ :: 
  ⟨(some 12), (some (10, true)), .load none (.t 11), [], [], 0⟩ :: 
  ⟨(some 13), (some (10, true)), .fld 1 (.t 3), [], [], 0⟩ :: 
  ⟨(some 14), (some (10, true)), .load none (.t 13), [], [], 0⟩ :: 
  ⟨(some 15), (some (10, true)), .bin .eql (.t 12) (.t 14), [], [], 0⟩ :: 
  ⟨(some 16), none, .pick (.t 10) (.t 15) (.c (.bool false)), [], [], 0⟩ :: 
  ⟨(some 17), none, .mv (.t 16), [], [], 0⟩ :: 
  ⟨(some 18), (some (17, true)), .fld 2 (.t 2), [], [], 0⟩ :: 
  ⟨(some 19), (some (17, true)), .load none (.t 18), [], [], 0⟩ :: 
  ⟨(some 20), (some (17, true)), .fld 2 (.t 3), [], [], 0⟩ :: 
  ⟨(some 21), (some (17, true)), .load none (.t 20), [], [], 0⟩ :: 
  ⟨(some 22), (some (17, true)), .bin .eql (.t 19) (.t 21), [], [], 0⟩ :: 
  ⟨(some 23), none, .pick (.t 17) (.t 22) (.c (.bool false)), [], [], 0⟩ :: 
  ⟨(some 24), none, .mv (.t 23), [], [], 0⟩ :: 
  ⟨(some 25), (some (24, true)), .fld 3 (.t 2), [], [], 0⟩ :: 
  ⟨(some 26), (some (24, true)), .load none (.t 25), [], [], 0⟩ :: 
  ⟨(some 27), (some (24, true)), .fld 3 (.t 3), [], [], 0⟩ :: 
  ⟨(some 28), (some (24, true)), .load none (.t 27), [], [], 0⟩ :: 
  ⟨(some 29), (some (24, true)), .bin .eql (.t 26) (.t 28), [], [], 0⟩ :: 
  ⟨(some 30), none, .pick (.t 24) (.t 29) (.c (.bool false)), [], [], 0⟩ :: 
  ⟨(some 31), none, .mv (.t 30), [], [], 0⟩ :: 
  ⟨(some 32), (some (31, true)), .fld 4 (.t 2), [], [], 0⟩ :: 
  ⟨(some 33), (some (31, true)), .load none (.t 32), [], [], 0⟩ :: 
  ⟨(some 34), (some (31, true)), .fld 4 (.t 3), [], [], 0⟩ :: 
  ⟨(some 35), (some (31, true)), .load none (.t 34), [], [], 0⟩ :: 
  ⟨(some 36), (some (31, true)), .bin .eql (.t 33) (.t 35), [], [], 0⟩ :: 
  ⟨(some 37), none, .pick (.t 31) (.t 36) (.c (.bool false)), [], [], 0⟩ :: 
  ⟨(some 38), none, .mv (.t 37), [], [], 0⟩ :: 
  ⟨(some 39), (some (38, true)), .fld 5 (.t 2), [], [], 0⟩ :: 
  ⟨(some 40), (some (38, true)), .load none (.t 39), [], [], 0⟩ :: 
  ⟨(some 41), (some (38, true)), .fld 5 (.t 3), [], [], 0⟩ :: 
  ⟨(some 42), (some (38, true)), .load none (.t 41), [], [], 0⟩ :: 
  ⟨(some 43), (some (38, true)), .bin .eql (.t 40) (.t 42), [], [], 0⟩ :: 
  ⟨(some 44), none, .pick (.t 38) (.t 43) (.c (.bool false)), [], [], 0⟩ :: 
  ⟨(some 45), none, .mv (.t 44), [], [], 0⟩ :: 
  ⟨(some 46), (some (45, true)), .fld 6 (.t 2), [], [], 0⟩ :: 
  ⟨(some 47), (some (45, true)), .load none (.t 46), [], [], 0⟩ :: 
  ⟨(some 48), (some (45, true)), .fld 6 (.t 3), [], [], 0⟩ :: 
  ⟨(some 49), (some (45, true)), .load none (.t 48), [], [], 0⟩ :: 
  ⟨(some 50), (some (45, true)), .bin .eql (.t 47) (.t 49), [], [], 0⟩ :: 
  ⟨(some 51), none, .pick (.t 45) (.t 50) (.c (.bool false)), [], [], 0⟩ :: 
  ⟨(some 52), none, .mv (.t 51), [], [], 0⟩ :: 
  ⟨(some 53), (some (52, true)), .fld 7 (.t 2), [], [], 0⟩ :: 
  ⟨(some 54), (some (52, true)), .load (some 3) (.t 53), [], [], 0⟩ :: 
  ⟨(some 55), (some (52, true)), .fld 7 (.t 3), [], [], 0⟩ :: 
  ⟨(some 56), (some (52, true)), .load (some 3) (.t 55), [], [], 0⟩ :: 
  ⟨(some 57), (some (52, true)), .binG [.bool, .u64, .u64] false (.t 54) (.t 56), [], [], 0⟩ :: 
  ⟨(some 58), none, .pick (.t 52) (.t 57) (.c (.bool false)), [], [], 0⟩ :: 
  ⟨(some 59), none, .mv (.t 58), [], [], 0⟩ :: 
  ⟨(some 60), (some (59, true)), .fld 10 (.t 2), [], [], 0⟩ :: 
  ⟨(some 61), (some (59, true)), .load (some 3) (.t 60), [], [], 0⟩ :: 
  ⟨(some 62), (some (59, true)), .fld 10 (.t 3), [], [], 0⟩ :: 
  ⟨(some 63), (some (59, true)), .load (some 3) (.t 62), [], [], 0⟩ :: 
  ⟨(some 64), (some (59, true)), .binG [.bool, .u64, .u64] false (.t 61) (.t 63), [], [], 0⟩ :: 
  ⟨(some 65), none, .pick (.t 59) (.t 64) (.c (.bool false)), [], [], 0⟩ :: 
  ⟨(some 66), none, .mv (.t 65), [], [], 0⟩ :: 
  ⟨(some 67), (some (66, true)), .fld 13 (.t 2), [], [], 0⟩ :: 
  ⟨(some 68), (some (66, true)), .load none (.t 67), [], [], 0⟩ :: 
  ⟨(some 69), (some (66, true)), .b2s (.t 68), [], [], 0⟩ :: 
  ⟨(some 70), (some (66, true)), .fld 13 (.t 3), [], [], 0⟩ :: 
  ⟨(some 71), (some (66, true)), .load none (.t 70), [], [], 0⟩ :: 
  ⟨(some 72), (some (66, true)), .b2s (.t 71), [], [], 0⟩ :: 
  ⟨(some 73), (some (66, true)), .binS .eql (.t 69) (.t 72), [], [], 0⟩ :: 
  ⟨(some 74), none, .pick (.t 66) (.t 73) (.c (.bool false)), [], [], 0⟩ :: 
  ⟨(some 4), none, .mv (.t 74), [], [], 0⟩ :: []) false [4])
 (.ret))
def rs19 : List (Nat × Option (Option Nat)) := [(4, none)]

/-- (towpath/towpathseat.Pack).Bytes -/
def mc20 : MC := .seq (.region 0 [
  ⟨(some 1), none, .box (.t 0), [], [], 0⟩, 
  ⟨(some 2), none, .mv (.c .nil), [], [], 0⟩] false [1])
 (.seq (.region 1 (
  ⟨(some 6), none, .load (some 8) (.t 1), [], [], 0⟩ :: 
  ⟨(some 7), none, .call false 13 [((.t 6), none)], [], [], 0⟩ :: 
  ⟨(some 8), none, .call false 15 [((.t 7), none)], [], [], 0⟩ :: 
  ⟨(some 5), none, .mv (.t 8), [], [], 0⟩ :: 
  ⟨(some 9), none, .ext 0 (.t 5), [], [], 0⟩ :: 
  ⟨(some 10), none, .ext 1 (.t 5), [], [], 0⟩ :: 
  ⟨(some 3), none, .mv (.t 9), [], [], 0⟩ :: 
  ⟨(some 4), none, .mv (.t 10), [], [], 0⟩ :: []) false [3])
 (.seq (.region 2 [
  ⟨(some 11), none, .mv (.t 3), [], [], 0⟩, 
  ⟨(some 2), none, .mv (.t 11), [], [], 0⟩] false [2])
 (.ret)))
def rs20 : List (Nat × Option (Option Nat)) := [(2, none)]

/-- towpath/towpathref11.PacketParse -/
def mc21 : MC := .seq (.region 0 [
  ⟨(some 2), none, .alloc (.gen ((.bool false) :: (.u8 0) :: (.u32 0) :: (.u16 0) :: (.u16 0) :: (.u8 0) :: (.u8 0) :: (.bool false) :: (.u64 0) :: (.u64 0) :: (.bool false) :: (.u64 0) :: (.u64 0) :: .nil :: [])), [], [], 0⟩, 
  ⟨(some 3), none, .mv (.c (.n 0)), [], [], 0⟩] false (0 :: 2 :: 16 :: 17 :: 18 :: 19 :: 20 :: 23 :: 24 :: 25 :: 27 :: 28 :: 26 :: 29 :: 30 :: 60 :: 61 :: 62 :: 63 :: 66 :: 67 :: 68 :: 70 :: 69 :: 71 :: 72 :: []))
 (.seq (.seq (.region 1 [
  ⟨(some 8), none, .mv (.t 0), [], [], 0⟩, 
  ⟨(some 9), none, .lenS (.t 8), [], [], 0⟩, 
  ⟨(some 10), none, .bin .gtr (.t 9) (.c (.n 1400)), [], [], 0⟩] false (10 :: 2 :: 0 :: 16 :: 17 :: 18 :: 19 :: 20 :: 23 :: 24 :: 25 :: 27 :: 28 :: 26 :: 29 :: 30 :: 60 :: 61 :: 62 :: 63 :: 66 :: 67 :: 68 :: 70 :: 69 :: 71 :: 72 :: []))
 (.cond (.t 10)
 (.seq (.region 2 [
  ⟨(some 11), none, .bldz .kg ((.bool false) :: (.u8 0) :: (.u32 0) :: (.u16 0) :: (.u16 0) :: (.u8 0) :: (.u8 0) :: (.bool false) :: (.u64 0) :: (.u64 0) :: (.bool false) :: (.u64 0) :: (.u64 0) :: .nil :: []) [], [], [], 0⟩, 
  ⟨none, none, .store (some 14) (.t 2) (.t 11), [], [], 0⟩, 
  ⟨(some 3), none, .mv (.c (.n 23)), [], [], 0⟩] false [2, 3])
 (.ret))
 (.skip)))
 (.seq (.seq (.region 3 (
  ⟨(some 12), none, .mv (.t 0), [], [], 0⟩ :: 
  ⟨(some 13), none, .lenS (.t 12), [], [], 0⟩ :: 
  ⟨(some 14), none, .bin .geq (.t 13) (.c (.n 40)), [], [], 0⟩ :: 
  ⟨(some 15), none, .mv (.t 14), [], [], 0⟩ :: 
  ⟨(some 16), (some (15, true)), .mv (.t 0), [], [], 0⟩ :: 
  ⟨(some 17), (some (15, true)), .idxS 1 (.t 16) (.c (.n 0)), [], [], 0⟩ :: 
  ⟨(some 18), (some (15, true)), .load none (.t 17), [], [], 0⟩ :: 
  ⟨(some 19), (some (15, true)), .bin .shr (.t 18) (.c (.u64 4)), [], [], 0⟩ :: 
  ⟨(some 20), (some (15, true)), .bin .eql (.t 19) (.c (.u8 6)), [], [], 0⟩ :: 
  ⟨(some 21), none, .pick (.t 15) (.t 20) (.c (.bool false)), [], [], 0⟩ :: 
  ⟨(some 22), none, .mv (.t 21), [], [], 0⟩ :: 
  ⟨(some 23), (some (22, true)), .mv (.t 0), [], [], 0⟩ :: 
  ⟨(some 24), (some (22, true)), .slcS 1 (.t 23) (some (.c (.n 4))) none, [], [], 0⟩ :: 
  ⟨(some 25), (some (22, true)), .call false 24 [((.t 24), (some .k8)), ((.c (.n 2)), none)], [], [], 0⟩ :: 
  ⟨(some 26), (some (22, true)), .conv .i64 (.t 25), [], [], 0⟩ :: 
  ⟨(some 27), (some (22, true)), .mv (.t 0), [], [], 0⟩ :: 
  ⟨(some 28), (some (22, true)), .lenS (.t 27), [], [], 0⟩ :: 
  ⟨(some 29), (some (22, true)), .bin .sub (.t 28) (.c (.n 40)), [], [], 0⟩ :: 
  ⟨(some 30), (some (22, true)), .bin .eql (.t 26) (.t 29), [], [], 0⟩ :: 
  ⟨(some 31), none, .pick (.t 22) (.t 30) (.c (.bool false)), [], [], 0⟩ :: []) false (31 :: 0 :: 2 :: 60 :: 61 :: 62 :: 63 :: 66 :: 67 :: 68 :: 70 :: 69 :: 71 :: 72 :: []))
 (.cond (.t 31)
 (.seq (.region 4 [
  ⟨(some 32), none, .mv (.t 0), [], [], 0⟩, 
  ⟨(some 33), none, .call false 24 [((.t 32), (some .k8)), ((.c (.n 4)), none)], [], [], 0⟩, 
  ⟨(some 4), none, .mv (.t 33), [], [], 0⟩] false [4, 0, 2])
 (.seq (.region 5 (
  ⟨(some 34), none, .mv (.t 4), [], [], 0⟩ :: 
  ⟨(some 35), none, .bin .shr (.t 34) (.c (.u64 20)), [0], [], 1⟩ :: 
  ⟨(some 36), none, .conv .u8 (.t 35), [1], [], 3⟩ :: 
  ⟨(some 37), none, .mv (.t 4), [], [], 0⟩ :: 
  ⟨(some 38), none, .conv .u32 (.t 37), [3], [], 8⟩ :: 
  ⟨(some 39), none, .bin .and (.t 38) (.c (.u32 1048575)), [4], [], 24⟩ :: 
  ⟨(some 40), none, .mv (.t 0), [], [], 0⟩ :: 
  ⟨(some 41), none, .idxS 1 (.t 40) (.c (.n 6)), [6], [], 64⟩ :: 
  ⟨(some 42), none, .load none (.t 41), [7], [], 192⟩ :: 
  ⟨(some 43), none, .mv (.t 0), [], [], 0⟩ :: 
  ⟨(some 44), none, .idxS 1 (.t 43) (.c (.n 7)), [9], [], 512⟩ :: 
  ⟨(some 45), none, .load none (.t 44), [10], [], 1536⟩ :: 
  ⟨(some 46), none, .mv (.t 0), [], [], 0⟩ :: 
  ⟨(some 47), none, .slcS 1 (.t 46) (some (.c (.n 8))) none, [12], [], 4096⟩ :: 
  ⟨(some 48), none, .call false 44 [((.t 47), (some .k8)), ((.c (.bool true)), none)], [13], [8, 11], 12288⟩ :: 
  ⟨(some 49), none, .mv (.t 0), [], [], 0⟩ :: 
  ⟨(some 50), none, .slcS 1 (.t 49) (some (.c (.n 24))) none, [15], [], 32768⟩ :: 
  ⟨(some 51), none, .call false 44 [((.t 50), (some .k8)), ((.c (.bool true)), none)], [16, 14], [8, 11], 126976⟩ :: 
  ⟨(some 52), none, .mv (.t 0), [], [], 0⟩ :: 
  ⟨(some 53), none, .slcS 1 (.t 52) (some (.c (.n 40))) none, [18], [], 262144⟩ :: 
  ⟨(some 54), none, .app .k8 [(.u8 0)] 1 (.c .nil) (.t 53), [19, 17], [8, 11], 1044480⟩ :: 
  ⟨(some 55), none, .bldz .kg ((.bool false) :: (.u8 0) :: (.u32 0) :: (.u16 0) :: (.u16 0) :: (.u8 0) :: (.u8 0) :: (.bool false) :: (.u64 0) :: (.u64 0) :: (.bool false) :: (.u64 0) :: (.u64 0) :: .nil :: []) ((0, 1, (.c (.bool true))) :: (1, 1, (.t 36)) :: (2, 1, (.t 39)) :: (6, 1, (.t 42)) :: (5, 1, (.t 45)) :: (7, 3, (.t 48)) :: (10, 3, (.t 51)) :: (13, 1, (.t 54)) :: []), (2 :: 5 :: 8 :: 11 :: 14 :: 17 :: 20 :: []), [], 2097151⟩ :: 
  ⟨none, none, .store (some 14) (.t 2) (.t 55), (21 :: 20 :: 0 :: 1 :: 2 :: 3 :: 4 :: 5 :: 6 :: 7 :: 8 :: 9 :: 10 :: 11 :: 12 :: 13 :: 14 :: 15 :: 16 :: 17 :: 18 :: 19 :: 20 :: 21 :: []), [], 4194303⟩ :: 
  ⟨(some 3), none, .mv (.c (.n 0)), (22 :: 0 :: 1 :: 2 :: 3 :: 4 :: 5 :: 6 :: 7 :: 8 :: 9 :: 10 :: 11 :: 12 :: 13 :: 14 :: 15 :: 16 :: 17 :: 18 :: 19 :: 20 :: 21 :: 22 :: []), [], 8388607⟩ :: []) true [2, 3])
 (.ret)))
 (.skip)))
 (.seq (.seq (.region 6 (
  ⟨(some 56), none, .mv (.t 0), [], [], 0⟩ :: 
  ⟨(some 57), none, .lenS (.t 56), [], [], 0⟩ :: 
  ⟨(some 58), none, .bin .lss (.t 57) (.c (.n 20)), [], [], 0⟩ :: 
  ⟨(some 59), none, .mv (.t 58), [], [], 0⟩ :: 
  ⟨(some 60), (some (59, false)), .mv (.t 0), [], [], 0⟩ :: 
  ⟨(some 61), (some (59, false)), .idxS 1 (.t 60) (.c (.n 0)), [], [], 0⟩ :: 
  ⟨(some 62), (some (59, false)), .load none (.t 61), [], [], 0⟩ :: 
  ⟨(some 63), (some (59, false)), .bin .neq (.t 62) (.c (.u8 69)), [], [], 0⟩ :: 
  ⟨(some 64), none, .pick (.t 59) (.c (.bool true)) (.t 63), [], [], 0⟩ :: 
  ⟨(some 65), none, .mv (.t 64), [], [], 0⟩ :: 
  ⟨(some 66), (some (65, false)), .mv (.t 0), [], [], 0⟩ :: 
  ⟨(some 67), (some (65, false)), .slcS 1 (.t 66) (some (.c (.n 2))) none, [], [], 0⟩ :: 
  ⟨(some 68), (some (65, false)), .call false 24 [((.t 67), (some .k8)), ((.c (.n 2)), none)], [], [], 0⟩ :: 
  ⟨(some 69), (some (65, false)), .conv .i64 (.t 68), [], [], 0⟩ :: 
  ⟨(some 70), (some (65, false)), .mv (.t 0), [], [], 0⟩ :: 
  ⟨(some 71), (some (65, false)), .lenS (.t 70), [], [], 0⟩ :: 
  ⟨(some 72), (some (65, false)), .bin .neq (.t 69) (.t 71), [], [], 0⟩ :: 
  ⟨(some 73), none, .pick (.t 65) (.c (.bool true)) (.t 72), [], [], 0⟩ :: []) false [73, 2, 0])
 (.cond (.t 73)
 (.seq (.region 7 [
  ⟨(some 74), none, .bldz .kg ((.bool false) :: (.u8 0) :: (.u32 0) :: (.u16 0) :: (.u16 0) :: (.u8 0) :: (.u8 0) :: (.bool false) :: (.u64 0) :: (.u64 0) :: (.bool false) :: (.u64 0) :: (.u64 0) :: .nil :: []) [], [], [], 0⟩, 
  ⟨none, none, .store (some 14) (.t 2) (.t 74), [], [], 0⟩, 
  ⟨(some 3), none, .mv (.c (.n 20)), [], [], 0⟩] false [2, 3])
 (.ret))
 (.skip)))
 (.seq (.seq (.region 8 [
  ⟨(some 75), none, .mv (.t 0), [], [], 0⟩, 
  ⟨(some 76), none, .slcS 1 (.t 75) none (some (.c (.n 20))), [], [], 0⟩, 
  ⟨(some 77), none, .call false 23 [((.t 76), (some .k8))], [], [], 0⟩, 
  ⟨(some 78), none, .bin .neq (.t 77) (.c (.u16 0)), [], [], 0⟩] false [78, 2, 0])
 (.cond (.t 78)
 (.seq (.region 9 [
  ⟨(some 79), none, .bldz .kg ((.bool false) :: (.u8 0) :: (.u32 0) :: (.u16 0) :: (.u16 0) :: (.u8 0) :: (.u8 0) :: (.bool false) :: (.u64 0) :: (.u64 0) :: (.bool false) :: (.u64 0) :: (.u64 0) :: .nil :: []) [], [], [], 0⟩, 
  ⟨none, none, .store (some 14) (.t 2) (.t 79), [], [], 0⟩, 
  ⟨(some 3), none, .mv (.c (.n 22)), [], [], 0⟩] false [2, 3])
 (.ret))
 (.skip)))
 (.seq (.region 10 (
  ⟨(some 80), none, .mv (.t 0), [], [], 0⟩ :: 
  ⟨(some 81), none, .idxS 1 (.t 80) (.c (.n 1)), [0], [], 1⟩ :: 
  ⟨(some 82), none, .load none (.t 81), [1], [], 3⟩ :: 
  ⟨(some 83), none, .mv (.t 0), [], [], 0⟩ :: 
  ⟨(some 84), none, .slcS 1 (.t 83) (some (.c (.n 4))) none, [3], [], 8⟩ :: 
  ⟨(some 85), none, .call false 24 [((.t 84), (some .k8)), ((.c (.n 2)), none)], [4], [2], 24⟩ :: 
  ⟨(some 86), none, .conv .u16 (.t 85), [5], [], 56⟩ :: 
  ⟨(some 87), none, .mv (.t 0), [], [], 0⟩ :: 
  ⟨(some 88), none, .slcS 1 (.t 87) (some (.c (.n 6))) none, [7], [], 128⟩ :: 
  ⟨(some 89), none, .call false 24 [((.t 88), (some .k8)), ((.c (.n 2)), none)], [8, 5], [2], 440⟩ :: 
  ⟨(some 90), none, .conv .u16 (.t 89), [9], [], 952⟩ :: 
  ⟨(some 91), none, .mv (.t 0), [], [], 0⟩ :: 
  ⟨(some 92), none, .idxS 1 (.t 91) (.c (.n 8)), [11], [], 2048⟩ :: 
  ⟨(some 93), none, .load none (.t 92), [12], [5, 9], 6144⟩ :: 
  ⟨(some 94), none, .mv (.t 0), [], [], 0⟩ :: 
  ⟨(some 95), none, .idxS 1 (.t 94) (.c (.n 9)), [14], [], 16384⟩ :: 
  ⟨(some 96), none, .load none (.t 95), [15], [5, 9], 49152⟩ :: 
  ⟨(some 97), none, .mv (.t 0), [], [], 0⟩ :: 
  ⟨(some 98), none, .slcS 1 (.t 97) (some (.c (.n 12))) none, [17], [], 131072⟩ :: 
  ⟨(some 99), none, .call false 44 [((.t 98), (some .k8)), ((.c (.bool false)), none)], [18, 9], [2, 13, 16], 394168⟩ :: 
  ⟨(some 100), none, .mv (.t 0), [], [], 0⟩ :: 
  ⟨(some 101), none, .slcS 1 (.t 100) (some (.c (.n 16))) none, [20], [], 1048576⟩ :: 
  ⟨(some 102), none, .call false 44 [((.t 101), (some .k8)), ((.c (.bool false)), none)], [21, 19], [2, 13, 16], 4064184⟩ :: 
  ⟨(some 103), none, .mv (.t 0), [], [], 0⟩ :: 
  ⟨(some 104), none, .slcS 1 (.t 103) (some (.c (.n 20))) none, [23], [], 8388608⟩ :: 
  ⟨(some 105), none, .app .k8 [(.u8 0)] 1 (.c .nil) (.t 104), [24, 22], [2, 13, 16], 33424312⟩ :: 
  ⟨(some 106), none, .bldz .kg ((.bool false) :: (.u8 0) :: (.u32 0) :: (.u16 0) :: (.u16 0) :: (.u8 0) :: (.u8 0) :: (.bool false) :: (.u64 0) :: (.u64 0) :: (.bool false) :: (.u64 0) :: (.u64 0) :: .nil :: []) ((1, 1, (.t 82)) :: (3, 1, (.t 86)) :: (4, 1, (.t 90)) :: (5, 1, (.t 93)) :: (6, 1, (.t 96)) :: (7, 3, (.t 99)) :: (10, 3, (.t 102)) :: (13, 1, (.t 105)) :: []), (2 :: 6 :: 10 :: 13 :: 16 :: 19 :: 22 :: 25 :: []), [], 67108863⟩ :: 
  ⟨(some 5), none, .alloc (.gen ((.bool false) :: (.u8 0) :: (.u32 0) :: (.u16 0) :: (.u16 0) :: (.u8 0) :: (.u8 0) :: (.bool false) :: (.u64 0) :: (.u64 0) :: (.bool false) :: (.u64 0) :: (.u64 0) :: .nil :: [])), [], (2 :: 5 :: 9 :: 13 :: 16 :: 19 :: 22 :: 25 :: []), 0⟩ :: 
  ⟨none, none, .store (some 14) (.t 5) (.t 106), (27 :: 26 :: 25 :: 0 :: 1 :: 2 :: 3 :: 4 :: 5 :: 6 :: 7 :: 8 :: 9 :: 10 :: 11 :: 12 :: 13 :: 14 :: 15 :: 16 :: 17 :: 18 :: 19 :: 20 :: 21 :: 22 :: 23 :: 24 :: 25 :: 26 :: 27 :: []), [], 268435455⟩ :: []) true [5, 0, 2])
 (.seq (.region 11 (
  ⟨(some 108), none, .load (some 14) (.t 5), [], [], 0⟩ :: 
  ⟨(some 109), none, .call false 15 [((.t 108), none)], [], [], 0⟩ :: 
  ⟨(some 107), none, .mv (.t 109), [], [], 0⟩ :: 
  ⟨(some 110), none, .ext 0 (.t 107), [], [], 0⟩ :: 
  ⟨(some 111), none, .ext 1 (.t 107), [], [], 0⟩ :: 
  ⟨(some 6), none, .mv (.t 110), [], [], 0⟩ :: 
  ⟨(some 7), none, .mv (.t 111), [], [], 0⟩ :: []) false [6, 0, 2, 5])
 (.seq (.seq (.region 12 [
  ⟨(some 112), none, .mv (.t 6), [], [], 0⟩, 
  ⟨(some 113), none, .b2s (.t 112), [], [], 0⟩, 
  ⟨(some 114), none, .mv (.t 0), [], [], 0⟩, 
  ⟨(some 115), none, .b2s (.t 114), [], [], 0⟩, 
  ⟨(some 116), none, .binS .neq (.t 113) (.t 115), [], [], 0⟩] false [116, 2, 5])
 (.cond (.t 116)
 (.seq (.region 13 [
  ⟨(some 117), none, .bldz .kg ((.bool false) :: (.u8 0) :: (.u32 0) :: (.u16 0) :: (.u16 0) :: (.u8 0) :: (.u8 0) :: (.bool false) :: (.u64 0) :: (.u64 0) :: (.bool false) :: (.u64 0) :: (.u64 0) :: .nil :: []) [], [], [], 0⟩, 
  ⟨none, none, .store (some 14) (.t 2) (.t 117), [], [], 0⟩, 
  ⟨(some 3), none, .mv (.c (.n 22)), [], [], 0⟩] false [2, 3])
 (.ret))
 (.skip)))
 (.seq (.region 14 [
  ⟨(some 118), none, .load (some 14) (.t 5), [], [], 0⟩, 
  ⟨none, none, .store (some 14) (.t 2) (.t 118), [], [], 0⟩, 
  ⟨(some 3), none, .mv (.c (.n 0)), [], [], 0⟩] false [2, 3])
 (.ret)))))))))
def rs21 : List (Nat × Option (Option Nat)) := [(2, (some (some 14))), (3, none)]

/-- towpath/packet.Sum -/
def mc22 : MC := .seq (.region 0 [
  ⟨(some 2), none, .mv (.c (.u16 0)), [], [], 0⟩] false [0])
 (.seq (.region 1 [
  ⟨(some 3), none, .mv (.c (.u32 0)), [], [], 0⟩] false [0, 3])
 (.seq (.seq (.region 2 [
  ⟨(some 6), none, .mv (.t 0), [], [], 0⟩, 
  ⟨(some 7), none, .call false 35 [((.t 6), (some .kb))], [], [], 0⟩, 
  ⟨(some 8), none, .lenS (.t 7), [], [], 0⟩, 
  ⟨(some 9), none, .mv (.c (.n 0)), [], [], 0⟩] false [9, 8, 7, 3])
 (.block 0 (.loop (.seq (.region 3 [
  ⟨(some 10), none, .bin .lss (.t 9) (.t 8), [], [], 0⟩] false [10, 9, 7, 3, 8])
 (.seq (.cond (.t 10)
 (.skip)
 (.exit 0))
 (.seq (.block 1 (.seq (.region 4 [
  ⟨(some 11), none, .mv (.t 9), [], [], 0⟩, 
  ⟨(some 12), none, .idxS 1 (.t 7) (.t 9), [], [], 0⟩, 
  ⟨(some 13), none, .load none (.t 12), [], [], 0⟩, 
  ⟨(some 4), none, .mv (.t 11), [], [], 0⟩, 
  ⟨(some 5), none, .mv (.t 13), [], [], 0⟩] false (4 :: 3 :: 5 :: 9 :: 8 :: 7 :: []))
 (.seq (.seq (.region 5 [
  ⟨(some 14), none, .mv (.t 4), [], [], 0⟩, 
  ⟨(some 15), none, .bin .rem (.t 14) (.c (.n 2)), [], [], 0⟩, 
  ⟨(some 16), none, .bin .eql (.t 15) (.c (.n 0)), [], [], 0⟩] false (16 :: 3 :: 5 :: 9 :: 8 :: 7 :: []))
 (.cond (.t 16)
 (.region 6 (
  ⟨(some 17), none, .mv (.t 3), [], [], 0⟩ :: 
  ⟨(some 18), none, .mv (.t 5), [], [], 0⟩ :: 
  ⟨(some 19), none, .conv .u32 (.t 18), [], [], 0⟩ :: 
  ⟨(some 20), none, .bin .shl (.t 19) (.c (.u64 8)), [], [], 0⟩ :: 
  ⟨(some 21), none, .bin .add (.t 17) (.t 20), [], [], 0⟩ :: 
  ⟨(some 3), none, .mv (.t 21), [], [], 0⟩ :: []) false [3, 9, 8, 7])
 (.region 7 [
  ⟨(some 22), none, .mv (.t 3), [], [], 0⟩, 
  ⟨(some 23), none, .mv (.t 5), [], [], 0⟩, 
  ⟨(some 24), none, .conv .u32 (.t 23), [], [], 0⟩, 
  ⟨(some 25), none, .bin .add (.t 22) (.t 24), [], [], 0⟩, 
  ⟨(some 3), none, .mv (.t 25), [], [], 0⟩] false [3, 9, 8, 7])))
 (.region 8 (
  ⟨(some 26), none, .mv (.t 3), [], [], 0⟩ :: 
  ⟨(some 27), none, .bin .and (.t 26) (.c (.u32 65535)), [], [], 0⟩ :: 
  ⟨(some 28), none, .mv (.t 3), [], [], 0⟩ :: 
  ⟨(some 29), none, .bin .shr (.t 28) (.c (.u64 16)), [], [], 0⟩ :: 
  ⟨(some 30), none, .bin .add (.t 27) (.t 29), [], [], 0⟩ :: 
  ⟨(some 3), none, .mv (.t 30), [], [], 0⟩ :: []) false [9, 8, 7, 3]))))
 (.region 9 [
  ⟨(some 31), none, .bin .add (.t 9) (.c (.n 1)), [], [], 0⟩, 
  ⟨(some 9), none, .mv (.t 31), [], [], 0⟩] false [9, 8, 7, 3])))))))
 (.seq (.region 10 [
  ⟨(some 32), none, .mv (.t 3), [], [], 0⟩, 
  ⟨(some 33), none, .conv .u16 (.t 32), [], [], 0⟩, 
  ⟨(some 34), none, .un .xor (.t 33), [], [], 0⟩, 
  ⟨(some 2), none, .mv (.t 34), [], [], 0⟩] false [2])
 (.ret))))
def rs22 : List (Nat × Option (Option Nat)) := [(2, none)]

/-- towpath/towpathref11.Sum -/
def mc23 : MC := .seq (.region 0 [
  ⟨(some 2), none, .mv (.c (.u16 0)), [], [], 0⟩] false [0])
 (.seq (.region 1 [
  ⟨(some 3), none, .mv (.c (.u64 0)), [], [], 0⟩] false [0, 3])
 (.seq (.seq (.region 2 [
  ⟨(some 4), none, .mv (.c (.n 0)), [], [], 0⟩] false [4, 0, 3])
 (.block 0 (.loop (.seq (.seq (.region 3 [
  ⟨(some 5), none, .mv (.t 4), [], [], 0⟩, 
  ⟨(some 6), none, .mv (.t 0), [], [], 0⟩, 
  ⟨(some 7), none, .lenS (.t 6), [], [], 0⟩, 
  ⟨(some 8), none, .bin .lss (.t 5) (.t 7), [], [], 0⟩] false [8, 4, 3, 0])
 (.cond (.t 8)
 (.skip)
 (.exit 0)))
 (.seq (.block 1 (.seq (.region 5 [
  ⟨(some 11), none, .mv (.t 4), [], [], 0⟩, 
  ⟨(some 12), none, .bin .rem (.t 11) (.c (.n 2)), [], [], 0⟩, 
  ⟨(some 13), none, .bin .eql (.t 12) (.c (.n 0)), [], [], 0⟩] false [13, 3, 0, 4])
 (.cond (.t 13)
 (.region 6 (
  ⟨(some 14), none, .mv (.t 3), [], [], 0⟩ :: 
  ⟨(some 15), none, .mv (.t 0), [], [], 0⟩ :: 
  ⟨(some 16), none, .mv (.t 4), [], [], 0⟩ :: 
  ⟨(some 17), none, .idxS 1 (.t 15) (.t 16), [], [], 0⟩ :: 
  ⟨(some 18), none, .load none (.t 17), [], [], 0⟩ :: 
  ⟨(some 19), none, .conv .u64 (.t 18), [], [], 0⟩ :: 
  ⟨(some 20), none, .bin .shl (.t 19) (.c (.u64 8)), [], [], 0⟩ :: 
  ⟨(some 21), none, .bin .add (.t 14) (.t 20), [], [], 0⟩ :: 
  ⟨(some 3), none, .mv (.t 21), [], [], 0⟩ :: []) false [4, 0, 3])
 (.region 7 (
  ⟨(some 22), none, .mv (.t 3), [], [], 0⟩ :: 
  ⟨(some 23), none, .mv (.t 0), [], [], 0⟩ :: 
  ⟨(some 24), none, .mv (.t 4), [], [], 0⟩ :: 
  ⟨(some 25), none, .idxS 1 (.t 23) (.t 24), [], [], 0⟩ :: 
  ⟨(some 26), none, .load none (.t 25), [], [], 0⟩ :: 
  ⟨(some 27), none, .conv .u64 (.t 26), [], [], 0⟩ :: 
  ⟨(some 28), none, .bin .add (.t 22) (.t 27), [], [], 0⟩ :: 
  ⟨(some 3), none, .mv (.t 28), [], [], 0⟩ :: []) false [4, 0, 3]))))
 (.region 4 [
  ⟨(some 9), none, .mv (.t 4), [], [], 0⟩, 
  ⟨(some 10), none, .bin .add (.t 9) (.c (.n 1)), [], [], 0⟩, 
  ⟨(some 4), none, .mv (.t 10), [], [], 0⟩] false [4, 0, 3]))))))
 (.seq (.block 2 (.loop (.seq (.seq (.region 8 [
  ⟨(some 29), none, .mv (.t 3), [], [], 0⟩, 
  ⟨(some 30), none, .bin .shr (.t 29) (.c (.u64 16)), [], [], 0⟩, 
  ⟨(some 31), none, .bin .neq (.t 30) (.c (.u64 0)), [], [], 0⟩] false [31, 3])
 (.cond (.t 31)
 (.skip)
 (.exit 2)))
 (.block 3 (.region 9 (
  ⟨(some 32), none, .mv (.t 3), [], [], 0⟩ :: 
  ⟨(some 33), none, .bin .and (.t 32) (.c (.u64 65535)), [], [], 0⟩ :: 
  ⟨(some 34), none, .mv (.t 3), [], [], 0⟩ :: 
  ⟨(some 35), none, .bin .shr (.t 34) (.c (.u64 16)), [], [], 0⟩ :: 
  ⟨(some 36), none, .bin .add (.t 33) (.t 35), [], [], 0⟩ :: 
  ⟨(some 3), none, .mv (.t 36), [], [], 0⟩ :: []) false [3])))))
 (.seq (.region 10 [
  ⟨(some 37), none, .mv (.t 3), [], [], 0⟩, 
  ⟨(some 38), none, .conv .u16 (.t 37), [], [], 0⟩, 
  ⟨(some 39), none, .un .xor (.t 38), [], [], 0⟩, 
  ⟨(some 2), none, .mv (.t 39), [], [], 0⟩] false [2])
 (.ret)))))
def rs23 : List (Nat × Option (Option Nat)) := [(2, none)]

/-- towpath/towpathref11.ReadU -/
def mc24 : MC := .seq (.region 0 [
  ⟨(some 4), none, .mv (.c (.u64 0)), [], [], 0⟩] false [1, 0])
 (.seq (.region 1 [
  ⟨(some 5), none, .mv (.c (.u64 0)), [], [], 0⟩] false [1, 5, 0])
 (.seq (.seq (.region 2 [
  ⟨(some 6), none, .mv (.c (.n 0)), [], [], 0⟩] false [6, 1, 5, 0])
 (.block 0 (.loop (.seq (.seq (.region 3 [
  ⟨(some 7), none, .mv (.t 6), [], [], 0⟩, 
  ⟨(some 8), none, .mv (.t 1), [], [], 0⟩, 
  ⟨(some 9), none, .bin .lss (.t 7) (.t 8), [], [], 0⟩] false [9, 5, 0, 6, 1])
 (.cond (.t 9)
 (.skip)
 (.exit 0)))
 (.seq (.block 1 (.region 5 (
  ⟨(some 12), none, .mv (.t 5), [], [], 0⟩ :: 
  ⟨(some 13), none, .bin .shl (.t 12) (.c (.u64 8)), [], [], 0⟩ :: 
  ⟨(some 14), none, .mv (.t 0), [], [], 0⟩ :: 
  ⟨(some 15), none, .mv (.t 6), [], [], 0⟩ :: 
  ⟨(some 16), none, .idxS 1 (.t 14) (.t 15), [], [], 0⟩ :: 
  ⟨(some 17), none, .load none (.t 16), [], [], 0⟩ :: 
  ⟨(some 18), none, .conv .u64 (.t 17), [], [], 0⟩ :: 
  ⟨(some 19), none, .bin .or (.t 13) (.t 18), [], [], 0⟩ :: 
  ⟨(some 5), none, .mv (.t 19), [], [], 0⟩ :: []) false [6, 1, 5, 0]))
 (.region 4 [
  ⟨(some 10), none, .mv (.t 6), [], [], 0⟩, 
  ⟨(some 11), none, .bin .add (.t 10) (.c (.n 1)), [], [], 0⟩, 
  ⟨(some 6), none, .mv (.t 11), [], [], 0⟩] false [6, 1, 5, 0]))))))
 (.seq (.region 6 [
  ⟨(some 20), none, .mv (.t 5), [], [], 0⟩, 
  ⟨(some 4), none, .mv (.t 20), [], [], 0⟩] false [4])
 (.ret))))
def rs24 : List (Nat × Option (Option Nat)) := [(4, none)]

/-- towpath/towpathseat.Addr -/
def mc26 : MC := .seq (.region 0 [
  ⟨(some 6), none, .alloc (.gen [(.bool false), (.u64 0), (.u64 0)]), [], [], 0⟩] false [0, 1, 2, 6])
 (.seq (.seq (.region 1 [
  ⟨(some 7), none, .mv (.t 0), [], [], 0⟩] false [7, 1, 2, 6])
 (.cond (.t 7)
 (.seq (.region 2 (
  ⟨(some 8), none, .mv (.t 1), [], [], 0⟩ :: 
  ⟨(some 9), none, .bin .rem (.t 8) (.c (.u8 8)), [], [], 0⟩ :: 
  ⟨(some 10), none, .conv .u64 (.t 9), [], [], 0⟩ :: 
  ⟨(some 11), none, .bin .shl (.t 10) (.c (.u64 40)), [], [], 0⟩ :: 
  ⟨(some 12), none, .bin .or (.c (.u64 18230571291595767808)) (.t 11), [], [], 0⟩ :: 
  ⟨(some 13), none, .mv (.t 2), [], [], 0⟩ :: 
  ⟨(some 14), none, .bin .rem (.t 13) (.c (.u8 4)), [], [], 0⟩ :: 
  ⟨(some 15), none, .conv .u64 (.t 14), [], [], 0⟩ :: 
  ⟨(some 16), none, .bin .shl (.t 15) (.c (.u64 2)), [], [], 0⟩ :: 
  ⟨(some 17), none, .bin .or (.t 12) (.t 16), [], [], 0⟩ :: 
  ⟨(some 18), none, .mv (.t 2), [], [], 0⟩ :: 
  ⟨(some 19), none, .conv .u64 (.t 18), [], [], 0⟩ :: 
  ⟨(some 20), none, .bldz .kg [(.bool false), (.u64 0), (.u64 0)] [(0, 1, (.c (.bool true))), (1, 1, (.t 17)), (2, 1, (.t 19))], [], [], 0⟩ :: 
  ⟨none, none, .store (some 3) (.t 6) (.t 20), [], [], 0⟩ :: []) false [6])
 (.ret))
 (.skip)))
 (.seq (.region 3 (
  ⟨(some 21), none, .mv (.t 1), [], [], 0⟩ :: 
  ⟨(some 22), none, .bin .rem (.t 21) (.c (.u8 8)), [], [], 0⟩ :: 
  ⟨(some 23), none, .conv .u64 (.t 22), [], [], 0⟩ :: 
  ⟨(some 24), none, .bin .shl (.t 23) (.c (.u64 48)), [], [], 0⟩ :: 
  ⟨(some 25), none, .bin .or (.c (.u64 720575940379279360)) (.t 24), [], [], 0⟩ :: 
  ⟨(some 26), none, .mv (.t 2), [], [], 0⟩ :: 
  ⟨(some 27), none, .conv .u64 (.t 26), [], [], 0⟩ :: 
  ⟨(some 28), none, .bin .shl (.t 27) (.c (.u64 32)), [], [], 0⟩ :: 
  ⟨(some 29), none, .bin .or (.t 25) (.t 28), [], [], 0⟩ :: 
  ⟨(some 30), none, .bldz .kg [(.bool false), (.u64 0), (.u64 0)] [(1, 1, (.t 29))], [], [], 0⟩ :: 
  ⟨none, none, .store (some 3) (.t 6) (.t 30), [], [], 0⟩ :: []) false [6])
 (.ret)))
def rs26 : List (Nat × Option (Option Nat)) := [(6, (some (some 3)))]

/-- towpath/packet.right -/
def mc33 : MC := .seq (.region 0 [
  ⟨(some 1), none, .box (.t 0), [], [], 0⟩, 
  ⟨(some 2), none, .mv (.c (.bool false)), [], [], 0⟩] false (1 :: 10 :: 11 :: 13 :: 12 :: 14 :: 15 :: 18 :: 19 :: 20 :: 21 :: 24 :: 25 :: 26 :: 27 :: 35 :: 36 :: 37 :: 40 :: 41 :: 42 :: []))
 (.seq (.seq (.region 1 (
  ⟨(some 3), none, .fld 7 (.t 1), [], [], 0⟩ :: 
  ⟨(some 4), none, .fld 0 (.t 3), [], [], 0⟩ :: 
  ⟨(some 5), none, .load none (.t 4), [], [], 0⟩ :: 
  ⟨(some 6), none, .fld 0 (.t 1), [], [], 0⟩ :: 
  ⟨(some 7), none, .load none (.t 6), [], [], 0⟩ :: 
  ⟨(some 8), none, .binB .neq (.t 5) (.t 7), [], [], 0⟩ :: 
  ⟨(some 9), none, .mv (.t 8), [], [], 0⟩ :: 
  ⟨(some 10), (some (9, false)), .fld 10 (.t 1), [], [], 0⟩ :: 
  ⟨(some 11), (some (9, false)), .fld 0 (.t 10), [], [], 0⟩ :: 
  ⟨(some 12), (some (9, false)), .load none (.t 11), [], [], 0⟩ :: 
  ⟨(some 13), (some (9, false)), .fld 0 (.t 1), [], [], 0⟩ :: 
  ⟨(some 14), (some (9, false)), .load none (.t 13), [], [], 0⟩ :: 
  ⟨(some 15), (some (9, false)), .binB .neq (.t 12) (.t 14), [], [], 0⟩ :: 
  ⟨(some 16), none, .pick (.t 9) (.c (.bool true)) (.t 15), [], [], 0⟩ :: 
  ⟨(some 17), none, .mv (.t 16), [], [], 0⟩ :: 
  ⟨(some 18), (some (17, false)), .fld 7 (.t 1), [], [], 0⟩ :: 
  ⟨(some 19), (some (17, false)), .load (some 3) (.t 18), [], [], 0⟩ :: 
  ⟨(some 20), (some (17, false)), .call false 46 [((.t 19), none)], [], [], 0⟩ :: 
  ⟨(some 21), (some (17, false)), .un .not (.t 20), [], [], 0⟩ :: 
  ⟨(some 22), none, .pick (.t 17) (.c (.bool true)) (.t 21), [], [], 0⟩ :: 
  ⟨(some 23), none, .mv (.t 22), [], [], 0⟩ :: 
  ⟨(some 24), (some (23, false)), .fld 10 (.t 1), [], [], 0⟩ :: 
  ⟨(some 25), (some (23, false)), .load (some 3) (.t 24), [], [], 0⟩ :: 
  ⟨(some 26), (some (23, false)), .call false 46 [((.t 25), none)], [], [], 0⟩ :: 
  ⟨(some 27), (some (23, false)), .un .not (.t 26), [], [], 0⟩ :: 
  ⟨(some 28), none, .pick (.t 23) (.c (.bool true)) (.t 27), [], [], 0⟩ :: []) false (28 :: 1 :: 35 :: 36 :: 37 :: 40 :: 41 :: 42 :: []))
 (.cond (.t 28)
 (.seq (.region 2 [
  ⟨(some 2), none, .mv (.c (.bool false)), [], [], 0⟩] false [2])
 (.ret))
 (.skip)))
 (.seq (.seq (.region 3 [
  ⟨(some 29), none, .fld 0 (.t 1), [], [], 0⟩, 
  ⟨(some 30), none, .load none (.t 29), [], [], 0⟩] false (30 :: 1 :: 35 :: 36 :: 37 :: 40 :: 41 :: 42 :: []))
 (.cond (.t 30)
 (.seq (.region 4 (
  ⟨(some 31), none, .fld 2 (.t 1), [], [], 0⟩ :: 
  ⟨(some 32), none, .load none (.t 31), [], [], 0⟩ :: 
  ⟨(some 33), none, .bin .leq (.t 32) (.c (.u32 1048575)), [], [], 0⟩ :: 
  ⟨(some 34), none, .mv (.t 33), [], [], 0⟩ :: 
  ⟨(some 35), (some (34, true)), .fld 3 (.t 1), [], [], 0⟩ :: 
  ⟨(some 36), (some (34, true)), .load none (.t 35), [], [], 0⟩ :: 
  ⟨(some 37), (some (34, true)), .bin .eql (.t 36) (.c (.u16 0)), [], [], 0⟩ :: 
  ⟨(some 38), none, .pick (.t 34) (.t 37) (.c (.bool false)), [], [], 0⟩ :: 
  ⟨(some 39), none, .mv (.t 38), [], [], 0⟩ :: 
  ⟨(some 40), (some (39, true)), .fld 4 (.t 1), [], [], 0⟩ :: 
  ⟨(some 41), (some (39, true)), .load none (.t 40), [], [], 0⟩ :: 
  ⟨(some 42), (some (39, true)), .bin .eql (.t 41) (.c (.u16 0)), [], [], 0⟩ :: 
  ⟨(some 43), none, .pick (.t 39) (.t 42) (.c (.bool false)), [], [], 0⟩ :: 
  ⟨(some 2), none, .mv (.t 43), [], [], 0⟩ :: []) false [2])
 (.ret))
 (.skip)))
 (.seq (.region 5 [
  ⟨(some 44), none, .fld 2 (.t 1), [], [], 0⟩, 
  ⟨(some 45), none, .load none (.t 44), [], [], 0⟩, 
  ⟨(some 46), none, .bin .eql (.t 45) (.c (.u32 0)), [], [], 0⟩, 
  ⟨(some 2), none, .mv (.t 46), [], [], 0⟩] false [2])
 (.ret))))
def rs33 : List (Nat × Option (Option Nat)) := [(2, none)]

/-- towpath/packet.number -/
def mc34 : MC := .seq (.region 0 [
  ⟨(some 4), none, .mv (.c .nil), [], [], 0⟩] false [1, 0])
 (.seq (.region 1 [
  ⟨(some 5), none, .mv (.c .nil), [], [], 0⟩] false [1, 5, 0])
 (.seq (.seq (.region 2 [
  ⟨(some 7), none, .mv (.t 1), [], [], 0⟩, 
  ⟨(some 8), none, .bin .sub (.t 7) (.c (.n 1)), [], [], 0⟩, 
  ⟨(some 6), none, .mv (.t 8), [], [], 0⟩] false [6, 5, 0])
 (.block 0 (.loop (.seq (.seq (.region 3 [
  ⟨(some 9), none, .mv (.t 6), [], [], 0⟩, 
  ⟨(some 10), none, .bin .geq (.t 9) (.c (.n 0)), [], [], 0⟩] false [10, 5, 0, 6])
 (.cond (.t 10)
 (.skip)
 (.exit 0)))
 (.seq (.block 1 (.region 5 (
  ⟨(some 13), none, .mv (.t 5), [], [], 0⟩ :: 
  ⟨(some 14), none, .mv (.t 0), [], [], 0⟩ :: 
  ⟨(some 15), none, .mv (.t 6), [], [], 0⟩ :: 
  ⟨(some 16), none, .bin .mul (.c (.n 8)) (.t 15), [], [], 0⟩ :: 
  ⟨(some 17), none, .conv .u64 (.t 16), [], [], 0⟩ :: 
  ⟨(some 18), none, .bin .shr (.t 14) (.t 17), [], [], 0⟩ :: 
  ⟨(some 19), none, .conv .u8 (.t 18), [], [], 0⟩ :: 
  ⟨(some 20), none, .bsl .k8 [(.t 19)], [], [], 0⟩ :: 
  ⟨(some 21), none, .app .k8 [(.u8 0)] 1 (.t 13) (.t 20), [], [], 0⟩ :: 
  ⟨(some 5), none, .mv (.t 21), [], [], 0⟩ :: []) false [6, 5, 0]))
 (.region 4 [
  ⟨(some 11), none, .mv (.t 6), [], [], 0⟩, 
  ⟨(some 12), none, .bin .sub (.t 11) (.c (.n 1)), [], [], 0⟩, 
  ⟨(some 6), none, .mv (.t 12), [], [], 0⟩] false [6, 5, 0]))))))
 (.seq (.region 6 [
  ⟨(some 22), none, .mv (.t 5), [], [], 0⟩, 
  ⟨(some 4), none, .mv (.t 22), [], [], 0⟩] false [4])
 (.ret))))
def rs34 : List (Nat × Option (Option Nat)) := [(4, none)]

/-- slices.Concat[[]byte,byte] -/
def mc35 : MC := .seq (.region 0 [
  ⟨(some 2), none, .mv (.c .nil), [], [], 0⟩] false [0])
 (.seq (.region 1 [
  ⟨(some 3), none, .mv (.c (.n 0)), [], [], 0⟩] false [0, 3])
 (.seq (.seq (.region 2 [
  ⟨(some 9), none, .mv (.t 0), [], [], 0⟩, 
  ⟨(some 10), none, .lenS (.t 9), [], [], 0⟩, 
  ⟨(some 11), none, .mv (.c (.n 0)), [], [], 0⟩] false [11, 10, 9, 3, 0])
 (.block 0 (.loop (.seq (.region 3 [
  ⟨(some 12), none, .bin .lss (.t 11) (.t 10), [], [], 0⟩] false (12 :: 9 :: 11 :: 3 :: 10 :: 0 :: []))
 (.seq (.cond (.t 12)
 (.skip)
 (.exit 0))
 (.seq (.block 1 (.seq (.region 4 [
  ⟨(some 13), none, .idxS 1 (.t 9) (.t 11), [], [], 0⟩, 
  ⟨(some 14), none, .load none (.t 13), [], [], 0⟩, 
  ⟨(some 5), none, .mv (.t 14), [], [], 0⟩] false (3 :: 5 :: 11 :: 10 :: 9 :: 0 :: []))
 (.seq (.region 5 [
  ⟨(some 15), none, .mv (.t 3), [], [], 0⟩, 
  ⟨(some 16), none, .mv (.t 5), [], [], 0⟩, 
  ⟨(some 17), none, .lenS (.t 16), [], [], 0⟩, 
  ⟨(some 18), none, .bin .add (.t 15) (.t 17), [], [], 0⟩, 
  ⟨(some 3), none, .mv (.t 18), [], [], 0⟩] false [3, 11, 10, 9, 0])
 (.seq (.region 6 [
  ⟨(some 19), none, .mv (.t 3), [], [], 0⟩, 
  ⟨(some 20), none, .bin .lss (.t 19) (.c (.n 0)), [], [], 0⟩] false (20 :: 11 :: 10 :: 9 :: 3 :: 0 :: []))
 (.cond (.t 20)
 (.region 7 [
  ⟨(some 21), none, .bad, [], [], 0⟩, 
  ⟨none, none, .bad, [], [], 0⟩] false [11, 10, 9, 3, 0])
 (.skip))))))
 (.region 8 [
  ⟨(some 22), none, .bin .add (.t 11) (.c (.n 1)), [], [], 0⟩, 
  ⟨(some 11), none, .mv (.t 22), [], [], 0⟩] false [11, 10, 9, 3, 0])))))))
 (.seq (.region 9 [
  ⟨(some 23), none, .mv (.t 3), [], [], 0⟩, 
  ⟨(some 24), none, .call false 53 [((.c .nil), none), ((.t 23), none)], [], [], 0⟩, 
  ⟨(some 6), none, .mv (.t 24), [], [], 0⟩] false [0, 6])
 (.seq (.seq (.region 10 [
  ⟨(some 25), none, .mv (.t 0), [], [], 0⟩, 
  ⟨(some 26), none, .lenS (.t 25), [], [], 0⟩, 
  ⟨(some 27), none, .mv (.c (.n 0)), [], [], 0⟩] false [27, 26, 25, 6])
 (.block 2 (.loop (.seq (.region 11 [
  ⟨(some 28), none, .bin .lss (.t 27) (.t 26), [], [], 0⟩] false [28, 25, 27, 6, 26])
 (.seq (.cond (.t 28)
 (.skip)
 (.exit 2))
 (.seq (.block 3 (.seq (.region 12 [
  ⟨(some 29), none, .idxS 1 (.t 25) (.t 27), [], [], 0⟩, 
  ⟨(some 30), none, .load none (.t 29), [], [], 0⟩, 
  ⟨(some 8), none, .mv (.t 30), [], [], 0⟩] false [6, 8, 27, 26, 25])
 (.region 13 [
  ⟨(some 31), none, .mv (.t 6), [], [], 0⟩, 
  ⟨(some 32), none, .mv (.t 8), [], [], 0⟩, 
  ⟨(some 33), none, .app .k8 [(.u8 0)] 1 (.t 31) (.t 32), [], [], 0⟩, 
  ⟨(some 6), none, .mv (.t 33), [], [], 0⟩] false [27, 26, 25, 6])))
 (.region 14 [
  ⟨(some 34), none, .bin .add (.t 27) (.c (.n 1)), [], [], 0⟩, 
  ⟨(some 27), none, .mv (.t 34), [], [], 0⟩] false [27, 26, 25, 6])))))))
 (.seq (.region 15 [
  ⟨(some 35), none, .mv (.t 6), [], [], 0⟩, 
  ⟨(some 2), none, .mv (.t 35), [], [], 0⟩] false [2])
 (.ret))))))
def rs35 : List (Nat × Option (Option Nat)) := [(2, none)]

/-- towpath/packet.addr -/
def mc36 : MC := .seq (.region 0 [
  ⟨(some 1), none, .box (.t 0), [], [], 0⟩, 
  ⟨(some 2), none, .mv (.c .nil), [], [], 0⟩] false [1])
 (.seq (.seq (.region 1 [
  ⟨(some 3), none, .fld 0 (.t 1), [], [], 0⟩, 
  ⟨(some 4), none, .load none (.t 3), [], [], 0⟩] false [4, 1])
 (.cond (.t 4)
 (.seq (.region 2 (
  ⟨(some 5), none, .fld 1 (.t 1), [], [], 0⟩ :: 
  ⟨(some 6), none, .load none (.t 5), [0], [], 1⟩ :: 
  ⟨(some 7), none, .call false 34 [((.t 6), none), ((.c (.n 8)), none)], [1], [], 3⟩ :: 
  ⟨(some 8), none, .fld 2 (.t 1), [], [], 0⟩ :: 
  ⟨(some 9), none, .load none (.t 8), [3], [2], 8⟩ :: 
  ⟨(some 10), none, .call false 34 [((.t 9), none), ((.c (.n 8)), none)], [4, 2], [], 31⟩ :: 
  ⟨(some 11), none, .app .k8 [(.u8 0)] 1 (.t 7) (.t 10), [2, 5, 5], [], 63⟩ :: 
  ⟨(some 2), none, .mv (.t 11), (6 :: 6 :: 0 :: 1 :: 2 :: 3 :: 4 :: 5 :: 6 :: []), [], 127⟩ :: []) true [2])
 (.ret))
 (.skip)))
 (.seq (.region 3 [
  ⟨(some 12), none, .fld 1 (.t 1), [], [], 0⟩, 
  ⟨(some 13), none, .load none (.t 12), [], [], 0⟩, 
  ⟨(some 14), none, .bin .shr (.t 13) (.c (.u64 32)), [], [], 0⟩, 
  ⟨(some 15), none, .call false 34 [((.t 14), none), ((.c (.n 4)), none)], [], [], 0⟩, 
  ⟨(some 2), none, .mv (.t 15), [], [], 0⟩] false [2])
 (.ret)))
def rs36 : List (Nat × Option (Option Nat)) := [(2, none)]

/-- towpath/packet.summed -/
def mc37 : MC := .seq (.region 0 [
  ⟨(some 2), none, .mv (.c .nil), [], [], 0⟩] false [0])
 (.seq (.region 1 [
  ⟨(some 3), none, .mv (.t 0), [], [], 0⟩, 
  ⟨(some 4), none, .call false 43 [((.t 3), (some .k8))], [], [], 0⟩, 
  ⟨(some 0), none, .mv (.t 4), [], [], 0⟩] false [0])
 (.seq (.region 2 (
  ⟨(some 5), none, .mv (.t 0), [], [], 0⟩ :: 
  ⟨(some 6), none, .mv (.t 0), [], [], 0⟩ :: 
  ⟨(some 7), none, .idxS 1 (.t 5) (.c (.n 10)), [], [], 0⟩ :: 
  ⟨none, none, .store none (.t 7) (.c (.u8 0)), [], [], 0⟩ :: 
  ⟨(some 8), none, .idxS 1 (.t 6) (.c (.n 11)), [], [], 0⟩ :: 
  ⟨none, none, .store none (.t 8) (.c (.u8 0)), [], [], 0⟩ :: []) false [0])
 (.seq (.region 3 (
  ⟨(some 9), none, .mv (.t 0), [], [], 0⟩ :: 
  ⟨(some 10), none, .slcS 1 (.t 9) (some (.c (.n 10))) none, [0], [], 1⟩ :: 
  ⟨(some 11), none, .mv (.t 0), [], [], 0⟩ :: 
  ⟨(some 12), none, .slcS 1 (.t 11) none (some (.c (.n 20))), [2], [], 4⟩ :: 
  ⟨(some 13), none, .bsl .kg [(.t 12)], [3], [], 12⟩ :: 
  ⟨(some 14), none, .call false 22 [((.t 13), (some .kb))], [4], [], 28⟩ :: 
  ⟨(some 15), none, .conv .u64 (.t 14), [5], [], 60⟩ :: 
  ⟨(some 16), none, .call false 34 [((.t 15), none), ((.c (.n 2)), none)], [6, 5], [], 124⟩ :: 
  ⟨(some 17), none, .copy (.t 10) (.t 16), [1, 7, 7], [], 255⟩ :: []) true [0])
 (.seq (.region 4 [
  ⟨(some 18), none, .mv (.t 0), [], [], 0⟩, 
  ⟨(some 2), none, .mv (.t 18), [], [], 0⟩] false [2])
 (.ret)))))
def rs37 : List (Nat × Option (Option Nat)) := [(2, none)]

/-- towpath/towpathref11.AddrRight -/
def mc38 : MC := .seq (.region 0 [
  ⟨(some 1), none, .box (.t 0), [], [], 0⟩, 
  ⟨(some 2), none, .mv (.c (.bool false)), [], [], 0⟩] false (1 :: 6 :: 7 :: 8 :: 9 :: 10 :: 11 :: 12 :: 13 :: 14 :: []))
 (.seq (.region 1 (
  ⟨(some 3), none, .fld 0 (.t 1), [], [], 0⟩ :: 
  ⟨(some 4), none, .load none (.t 3), [], [], 0⟩ :: 
  ⟨(some 5), none, .mv (.t 4), [], [], 0⟩ :: 
  ⟨(some 6), (some (5, false)), .fld 2 (.t 1), [], [], 0⟩ :: 
  ⟨(some 7), (some (5, false)), .load none (.t 6), [], [], 0⟩ :: 
  ⟨(some 8), (some (5, false)), .bin .eql (.t 7) (.c (.u64 0)), [], [], 0⟩ :: 
  ⟨(some 9), (some (5, false)), .mv (.t 8), [], [], 0⟩ :: 
  ⟨(some 10), (some (9, true)), .fld 1 (.t 1), [], [], 0⟩ :: 
  ⟨(some 11), (some (9, true)), .load none (.t 10), [], [], 0⟩ :: 
  ⟨(some 12), (some (9, true)), .bin .and (.t 11) (.c (.u64 4294967295)), [], [], 0⟩ :: 
  ⟨(some 13), (some (9, true)), .bin .eql (.t 12) (.c (.u64 0)), [], [], 0⟩ :: 
  ⟨(some 14), (some (5, false)), .pick (.t 9) (.t 13) (.c (.bool false)), [], [], 0⟩ :: 
  ⟨(some 15), none, .pick (.t 5) (.c (.bool true)) (.t 14), [], [], 0⟩ :: 
  ⟨(some 2), none, .mv (.t 15), [], [], 0⟩ :: []) false [2])
 (.ret))
def rs38 : List (Nat × Option (Option Nat)) := [(2, none)]

/-- towpath/towpathref11.PutU -/
def mc39 : MC := .seq (.region 0 [
  ⟨(some 6), none, .mv (.c .nil), [], [], 0⟩] false [2, 0, 1])
 (.seq (.seq (.region 1 [
  ⟨(some 8), none, .mv (.t 2), [], [], 0⟩, 
  ⟨(some 9), none, .bin .sub (.t 8) (.c (.n 1)), [], [], 0⟩, 
  ⟨(some 7), none, .mv (.t 9), [], [], 0⟩] false [7, 0, 1])
 (.block 0 (.loop (.seq (.seq (.region 2 [
  ⟨(some 10), none, .mv (.t 7), [], [], 0⟩, 
  ⟨(some 11), none, .bin .geq (.t 10) (.c (.n 0)), [], [], 0⟩] false [11, 0, 1, 7])
 (.cond (.t 11)
 (.skip)
 (.exit 0)))
 (.seq (.block 1 (.region 4 (
  ⟨(some 14), none, .mv (.t 0), [], [], 0⟩ :: 
  ⟨(some 15), none, .mv (.t 1), [], [], 0⟩ :: 
  ⟨(some 16), none, .mv (.t 7), [], [], 0⟩ :: 
  ⟨(some 17), none, .bin .mul (.c (.n 8)) (.t 16), [], [], 0⟩ :: 
  ⟨(some 18), none, .bin .shr (.t 15) (.t 17), [], [], 0⟩ :: 
  ⟨(some 19), none, .conv .u8 (.t 18), [], [], 0⟩ :: 
  ⟨(some 20), none, .bsl .k8 [(.t 19)], [], [], 0⟩ :: 
  ⟨(some 21), none, .app .k8 [(.u8 0)] 1 (.t 14) (.t 20), [], [], 0⟩ :: 
  ⟨(some 0), none, .mv (.t 21), [], [], 0⟩ :: []) false [7, 0, 1]))
 (.region 3 [
  ⟨(some 12), none, .mv (.t 7), [], [], 0⟩, 
  ⟨(some 13), none, .bin .sub (.t 12) (.c (.n 1)), [], [], 0⟩, 
  ⟨(some 7), none, .mv (.t 13), [], [], 0⟩] false [7, 0, 1]))))))
 (.seq (.region 5 [
  ⟨(some 22), none, .mv (.t 0), [], [], 0⟩, 
  ⟨(some 6), none, .mv (.t 22), [], [], 0⟩] false [6])
 (.ret)))
def rs39 : List (Nat × Option (Option Nat)) := [(6, none)]

/-- towpath/towpathref11.putAddr -/
def mc40 : MC := .seq (.region 0 [
  ⟨(some 3), none, .box (.t 1), [], [], 0⟩, 
  ⟨(some 4), none, .mv (.c .nil), [], [], 0⟩] false [3, 0])
 (.seq (.seq (.region 1 [
  ⟨(some 5), none, .fld 0 (.t 3), [], [], 0⟩, 
  ⟨(some 6), none, .load none (.t 5), [], [], 0⟩] false [6, 0, 3])
 (.cond (.t 6)
 (.seq (.region 2 (
  ⟨(some 7), none, .mv (.t 0), [], [], 0⟩ :: 
  ⟨(some 8), none, .fld 1 (.t 3), [], [], 0⟩ :: 
  ⟨(some 9), none, .load none (.t 8), [1], [], 2⟩ :: 
  ⟨(some 10), none, .call false 39 [((.t 7), (some .k8)), ((.t 9), none), ((.c (.n 8)), none)], [0, 2], [], 7⟩ :: 
  ⟨(some 11), none, .fld 2 (.t 3), [], [], 0⟩ :: 
  ⟨(some 12), none, .load none (.t 11), [4], [3], 16⟩ :: 
  ⟨(some 13), none, .call false 39 [((.t 10), (some .k8)), ((.t 12), none), ((.c (.n 8)), none)], [3, 5, 3], [], 63⟩ :: 
  ⟨(some 4), none, .mv (.t 13), (6 :: 6 :: 0 :: 1 :: 2 :: 3 :: 4 :: 5 :: 6 :: []), [], 127⟩ :: []) true [4])
 (.ret))
 (.skip)))
 (.seq (.region 3 (
  ⟨(some 14), none, .mv (.t 0), [], [], 0⟩ :: 
  ⟨(some 15), none, .fld 1 (.t 3), [], [], 0⟩ :: 
  ⟨(some 16), none, .load none (.t 15), [], [], 0⟩ :: 
  ⟨(some 17), none, .bin .shr (.t 16) (.c (.u64 32)), [], [], 0⟩ :: 
  ⟨(some 18), none, .call false 39 [((.t 14), (some .k8)), ((.t 17), none), ((.c (.n 4)), none)], [], [], 0⟩ :: 
  ⟨(some 4), none, .mv (.t 18), [], [], 0⟩ :: []) false [4])
 (.ret)))
def rs40 : List (Nat × Option (Option Nat)) := [(4, none)]

/-- towpath/packet.parse6 -/
def mc41 : MC := .seq (.region 0 [
  ⟨(some 2), none, .alloc (.gen ((.bool false) :: (.u8 0) :: (.u32 0) :: (.u16 0) :: (.u16 0) :: (.u8 0) :: (.u8 0) :: (.bool false) :: (.u64 0) :: (.u64 0) :: (.bool false) :: (.u64 0) :: (.u64 0) :: .nil :: [])), [], [], 0⟩, 
  ⟨(some 3), none, .mv (.c (.n 0)), [], [], 0⟩] false (0 :: 9 :: 10 :: 12 :: 13 :: 14 :: 11 :: 15 :: 16 :: 2 :: []))
 (.seq (.seq (.region 1 (
  ⟨(some 5), none, .mv (.t 0), [], [], 0⟩ :: 
  ⟨(some 6), none, .lenS (.t 5), [], [], 0⟩ :: 
  ⟨(some 7), none, .bin .lss (.t 6) (.c (.n 40)), [], [], 0⟩ :: 
  ⟨(some 8), none, .mv (.t 7), [], [], 0⟩ :: 
  ⟨(some 9), (some (8, false)), .mv (.t 0), [], [], 0⟩ :: 
  ⟨(some 10), (some (8, false)), .slcS 1 (.t 9) (some (.c (.n 4))) (some (.c (.n 6))), [], [], 0⟩ :: 
  ⟨(some 11), (some (8, false)), .call false 54 [((.t 10), (some .k8))], [], [], 0⟩ :: 
  ⟨(some 12), (some (8, false)), .mv (.t 0), [], [], 0⟩ :: 
  ⟨(some 13), (some (8, false)), .lenS (.t 12), [], [], 0⟩ :: 
  ⟨(some 14), (some (8, false)), .bin .sub (.t 13) (.c (.n 40)), [], [], 0⟩ :: 
  ⟨(some 15), (some (8, false)), .conv .u64 (.t 14), [], [], 0⟩ :: 
  ⟨(some 16), (some (8, false)), .bin .neq (.t 11) (.t 15), [], [], 0⟩ :: 
  ⟨(some 17), none, .pick (.t 8) (.c (.bool true)) (.t 16), [], [], 0⟩ :: []) false [17, 2, 0])
 (.cond (.t 17)
 (.seq (.region 2 [
  ⟨(some 18), none, .bldz .kg ((.bool false) :: (.u8 0) :: (.u32 0) :: (.u16 0) :: (.u16 0) :: (.u8 0) :: (.u8 0) :: (.bool false) :: (.u64 0) :: (.u64 0) :: (.bool false) :: (.u64 0) :: (.u64 0) :: .nil :: []) [], [], [], 0⟩, 
  ⟨none, none, .store (some 14) (.t 2) (.t 18), [], [], 0⟩, 
  ⟨(some 3), none, .mv (.c (.n 20)), [], [], 0⟩] false [2, 3])
 (.ret))
 (.skip)))
 (.seq (.region 3 [
  ⟨(some 19), none, .mv (.t 0), [], [], 0⟩, 
  ⟨(some 20), none, .slcS 1 (.t 19) none (some (.c (.n 4))), [], [], 0⟩, 
  ⟨(some 21), none, .call false 54 [((.t 20), (some .k8))], [], [], 0⟩, 
  ⟨(some 4), none, .mv (.t 21), [], [], 0⟩] false [4, 0, 2])
 (.seq (.region 4 (
  ⟨(some 22), none, .mv (.t 4), [], [], 0⟩ :: 
  ⟨(some 23), none, .bin .shr (.t 22) (.c (.u64 20)), [0], [], 1⟩ :: 
  ⟨(some 24), none, .conv .u8 (.t 23), [1], [], 3⟩ :: 
  ⟨(some 25), none, .mv (.t 4), [], [], 0⟩ :: 
  ⟨(some 26), none, .bin .and (.t 25) (.c (.u64 1048575)), [3], [], 8⟩ :: 
  ⟨(some 27), none, .conv .u32 (.t 26), [4], [], 24⟩ :: 
  ⟨(some 28), none, .mv (.t 0), [], [], 0⟩ :: 
  ⟨(some 29), none, .idxS 1 (.t 28) (.c (.n 6)), [6], [], 64⟩ :: 
  ⟨(some 30), none, .load none (.t 29), [7], [], 192⟩ :: 
  ⟨(some 31), none, .mv (.t 0), [], [], 0⟩ :: 
  ⟨(some 32), none, .idxS 1 (.t 31) (.c (.n 7)), [9], [], 512⟩ :: 
  ⟨(some 33), none, .load none (.t 32), [10], [], 1536⟩ :: 
  ⟨(some 34), none, .mv (.t 0), [], [], 0⟩ :: 
  ⟨(some 35), none, .slcS 1 (.t 34) (some (.c (.n 8))) (some (.c (.n 24))), [12], [], 4096⟩ :: 
  ⟨(some 36), none, .call false 55 [((.t 35), (some .k8))], [13], [8, 11], 12288⟩ :: 
  ⟨(some 37), none, .mv (.t 0), [], [], 0⟩ :: 
  ⟨(some 38), none, .slcS 1 (.t 37) (some (.c (.n 24))) (some (.c (.n 40))), [15], [], 32768⟩ :: 
  ⟨(some 39), none, .call false 55 [((.t 38), (some .k8))], [16, 14], [8, 11], 126976⟩ :: 
  ⟨(some 40), none, .mv (.t 0), [], [], 0⟩ :: 
  ⟨(some 41), none, .slcS 1 (.t 40) (some (.c (.n 40))) none, [18], [], 262144⟩ :: 
  ⟨(some 42), none, .call false 43 [((.t 41), (some .k8))], [19, 17], [8, 11], 1044480⟩ :: 
  ⟨(some 43), none, .bldz .kg ((.bool false) :: (.u8 0) :: (.u32 0) :: (.u16 0) :: (.u16 0) :: (.u8 0) :: (.u8 0) :: (.bool false) :: (.u64 0) :: (.u64 0) :: (.bool false) :: (.u64 0) :: (.u64 0) :: .nil :: []) ((0, 1, (.c (.bool true))) :: (1, 1, (.t 24)) :: (2, 1, (.t 27)) :: (6, 1, (.t 30)) :: (5, 1, (.t 33)) :: (7, 3, (.t 36)) :: (10, 3, (.t 39)) :: (13, 1, (.t 42)) :: []), (2 :: 5 :: 8 :: 11 :: 14 :: 17 :: 20 :: []), [], 2097151⟩ :: 
  ⟨none, none, .store (some 14) (.t 2) (.t 43), (21 :: 20 :: 0 :: 1 :: 2 :: 3 :: 4 :: 5 :: 6 :: 7 :: 8 :: 9 :: 10 :: 11 :: 12 :: 13 :: 14 :: 15 :: 16 :: 17 :: 18 :: 19 :: 20 :: 21 :: []), [], 4194303⟩ :: 
  ⟨(some 3), none, .mv (.c (.n 0)), (22 :: 0 :: 1 :: 2 :: 3 :: 4 :: 5 :: 6 :: 7 :: 8 :: 9 :: 10 :: 11 :: 12 :: 13 :: 14 :: 15 :: 16 :: 17 :: 18 :: 19 :: 20 :: 21 :: 22 :: []), [], 8388607⟩ :: []) true [2, 3])
 (.ret))))
def rs41 : List (Nat × Option (Option Nat)) := [(2, (some (some 14))), (3, none)]

/-- towpath/packet.parse4 -/
def mc42 : MC := .seq (.region 0 [
  ⟨(some 2), none, .alloc (.gen ((.bool false) :: (.u8 0) :: (.u32 0) :: (.u16 0) :: (.u16 0) :: (.u8 0) :: (.u8 0) :: (.bool false) :: (.u64 0) :: (.u64 0) :: (.bool false) :: (.u64 0) :: (.u64 0) :: .nil :: [])), [], [], 0⟩, 
  ⟨(some 3), none, .mv (.c (.n 0)), [], [], 0⟩] false (0 :: 8 :: 9 :: 10 :: 11 :: 14 :: 15 :: 17 :: 18 :: 16 :: 19 :: 20 :: 2 :: []))
 (.seq (.seq (.region 1 (
  ⟨(some 4), none, .mv (.t 0), [], [], 0⟩ :: 
  ⟨(some 5), none, .lenS (.t 4), [], [], 0⟩ :: 
  ⟨(some 6), none, .bin .lss (.t 5) (.c (.n 20)), [], [], 0⟩ :: 
  ⟨(some 7), none, .mv (.t 6), [], [], 0⟩ :: 
  ⟨(some 8), (some (7, false)), .mv (.t 0), [], [], 0⟩ :: 
  ⟨(some 9), (some (7, false)), .idxS 1 (.t 8) (.c (.n 0)), [], [], 0⟩ :: 
  ⟨(some 10), (some (7, false)), .load none (.t 9), [], [], 0⟩ :: 
  ⟨(some 11), (some (7, false)), .bin .neq (.t 10) (.c (.u8 69)), [], [], 0⟩ :: 
  ⟨(some 12), none, .pick (.t 7) (.c (.bool true)) (.t 11), [], [], 0⟩ :: 
  ⟨(some 13), none, .mv (.t 12), [], [], 0⟩ :: 
  ⟨(some 14), (some (13, false)), .mv (.t 0), [], [], 0⟩ :: 
  ⟨(some 15), (some (13, false)), .slcS 1 (.t 14) (some (.c (.n 2))) (some (.c (.n 4))), [], [], 0⟩ :: 
  ⟨(some 16), (some (13, false)), .call false 54 [((.t 15), (some .k8))], [], [], 0⟩ :: 
  ⟨(some 17), (some (13, false)), .mv (.t 0), [], [], 0⟩ :: 
  ⟨(some 18), (some (13, false)), .lenS (.t 17), [], [], 0⟩ :: 
  ⟨(some 19), (some (13, false)), .conv .u64 (.t 18), [], [], 0⟩ :: 
  ⟨(some 20), (some (13, false)), .bin .neq (.t 16) (.t 19), [], [], 0⟩ :: 
  ⟨(some 21), none, .pick (.t 13) (.c (.bool true)) (.t 20), [], [], 0⟩ :: []) false [21, 2, 0])
 (.cond (.t 21)
 (.seq (.region 2 [
  ⟨(some 22), none, .bldz .kg ((.bool false) :: (.u8 0) :: (.u32 0) :: (.u16 0) :: (.u16 0) :: (.u8 0) :: (.u8 0) :: (.bool false) :: (.u64 0) :: (.u64 0) :: (.bool false) :: (.u64 0) :: (.u64 0) :: .nil :: []) [], [], [], 0⟩, 
  ⟨none, none, .store (some 14) (.t 2) (.t 22), [], [], 0⟩, 
  ⟨(some 3), none, .mv (.c (.n 20)), [], [], 0⟩] false [2, 3])
 (.ret))
 (.skip)))
 (.seq (.seq (.region 3 [
  ⟨(some 23), none, .mv (.t 0), [], [], 0⟩, 
  ⟨(some 24), none, .call false 37 [((.t 23), (some .k8))], [], [], 0⟩, 
  ⟨(some 25), none, .mv (.t 0), [], [], 0⟩, 
  ⟨(some 26), none, .call false 52 [((.t 24), (some .k8)), ((.t 25), (some .k8))], [], [], 0⟩, 
  ⟨(some 27), none, .un .not (.t 26), [], [], 0⟩] false [27, 2, 0])
 (.cond (.t 27)
 (.seq (.region 4 [
  ⟨(some 28), none, .bldz .kg ((.bool false) :: (.u8 0) :: (.u32 0) :: (.u16 0) :: (.u16 0) :: (.u8 0) :: (.u8 0) :: (.bool false) :: (.u64 0) :: (.u64 0) :: (.bool false) :: (.u64 0) :: (.u64 0) :: .nil :: []) [], [], [], 0⟩, 
  ⟨none, none, .store (some 14) (.t 2) (.t 28), [], [], 0⟩, 
  ⟨(some 3), none, .mv (.c (.n 22)), [], [], 0⟩] false [2, 3])
 (.ret))
 (.skip)))
 (.seq (.region 5 (
  ⟨(some 29), none, .mv (.t 0), [], [], 0⟩ :: 
  ⟨(some 30), none, .idxS 1 (.t 29) (.c (.n 1)), [0], [], 1⟩ :: 
  ⟨(some 31), none, .load none (.t 30), [1], [], 3⟩ :: 
  ⟨(some 32), none, .mv (.t 0), [], [], 0⟩ :: 
  ⟨(some 33), none, .slcS 1 (.t 32) (some (.c (.n 4))) (some (.c (.n 6))), [3], [], 8⟩ :: 
  ⟨(some 34), none, .call false 54 [((.t 33), (some .k8))], [4], [2], 24⟩ :: 
  ⟨(some 35), none, .conv .u16 (.t 34), [5], [], 56⟩ :: 
  ⟨(some 36), none, .mv (.t 0), [], [], 0⟩ :: 
  ⟨(some 37), none, .slcS 1 (.t 36) (some (.c (.n 6))) (some (.c (.n 8))), [7], [], 128⟩ :: 
  ⟨(some 38), none, .call false 54 [((.t 37), (some .k8))], [8, 5], [2], 440⟩ :: 
  ⟨(some 39), none, .conv .u16 (.t 38), [9], [], 952⟩ :: 
  ⟨(some 40), none, .mv (.t 0), [], [], 0⟩ :: 
  ⟨(some 41), none, .idxS 1 (.t 40) (.c (.n 8)), [11], [], 2048⟩ :: 
  ⟨(some 42), none, .load none (.t 41), [12], [5, 9], 6144⟩ :: 
  ⟨(some 43), none, .mv (.t 0), [], [], 0⟩ :: 
  ⟨(some 44), none, .idxS 1 (.t 43) (.c (.n 9)), [14], [], 16384⟩ :: 
  ⟨(some 45), none, .load none (.t 44), [15], [5, 9], 49152⟩ :: 
  ⟨(some 46), none, .mv (.t 0), [], [], 0⟩ :: 
  ⟨(some 47), none, .slcS 1 (.t 46) (some (.c (.n 12))) (some (.c (.n 16))), [17], [], 131072⟩ :: 
  ⟨(some 48), none, .call false 55 [((.t 47), (some .k8))], [18, 9], [2, 13, 16], 394168⟩ :: 
  ⟨(some 49), none, .mv (.t 0), [], [], 0⟩ :: 
  ⟨(some 50), none, .slcS 1 (.t 49) (some (.c (.n 16))) (some (.c (.n 20))), [20], [], 1048576⟩ :: 
  ⟨(some 51), none, .call false 55 [((.t 50), (some .k8))], [21, 19], [2, 13, 16], 4064184⟩ :: 
  ⟨(some 52), none, .mv (.t 0), [], [], 0⟩ :: 
  ⟨(some 53), none, .slcS 1 (.t 52) (some (.c (.n 20))) none, [23], [], 8388608⟩ :: 
  ⟨(some 54), none, .call false 43 [((.t 53), (some .k8))], [24, 22], [2, 13, 16], 33424312⟩ :: 
  ⟨(some 55), none, .bldz .kg ((.bool false) :: (.u8 0) :: (.u32 0) :: (.u16 0) :: (.u16 0) :: (.u8 0) :: (.u8 0) :: (.bool false) :: (.u64 0) :: (.u64 0) :: (.bool false) :: (.u64 0) :: (.u64 0) :: .nil :: []) ((1, 1, (.t 31)) :: (3, 1, (.t 35)) :: (4, 1, (.t 39)) :: (5, 1, (.t 42)) :: (6, 1, (.t 45)) :: (7, 3, (.t 48)) :: (10, 3, (.t 51)) :: (13, 1, (.t 54)) :: []), (2 :: 6 :: 10 :: 13 :: 16 :: 19 :: 22 :: 25 :: []), [], 67108863⟩ :: 
  ⟨none, none, .store (some 14) (.t 2) (.t 55), (26 :: 25 :: 0 :: 1 :: 2 :: 3 :: 4 :: 5 :: 6 :: 7 :: 8 :: 9 :: 10 :: 11 :: 12 :: 13 :: 14 :: 15 :: 16 :: 17 :: 18 :: 19 :: 20 :: 21 :: 22 :: 23 :: 24 :: 25 :: 26 :: []), [], 134217727⟩ :: 
  ⟨(some 3), none, .mv (.c (.n 0)), (27 :: 0 :: 1 :: 2 :: 3 :: 4 :: 5 :: 6 :: 7 :: 8 :: 9 :: 10 :: 11 :: 12 :: 13 :: 14 :: 15 :: 16 :: 17 :: 18 :: 19 :: 20 :: 21 :: 22 :: 23 :: 24 :: 25 :: 26 :: 27 :: []), [], 268435455⟩ :: []) true [2, 3])
 (.ret))))
def rs42 : List (Nat × Option (Option Nat)) := [(2, (some (some 14))), (3, none)]

/-- slices.Clone[[]byte,byte] -/
def mc43 : MC := .seq (.region 0 [
  ⟨(some 2), none, .mv (.c .nil), [], [], 0⟩] false [0])
 (.seq (.seq (.region 1 [
  ⟨(some 3), none, .mv (.t 0), [], [], 0⟩, 
  ⟨(some 4), none, .binN (.t 3) (.c .nil), [], [], 0⟩] false [4, 0])
 (.cond (.t 4)
 (.seq (.region 2 [
  ⟨(some 2), none, .mv (.c .nil), [], [], 0⟩] false [2])
 (.ret))
 (.skip)))
 (.seq (.region 3 [
  ⟨(some 5), none, .bsl .k8 [], [], [], 0⟩, 
  ⟨(some 6), none, .mv (.t 0), [], [], 0⟩, 
  ⟨(some 7), none, .app .k8 [(.u8 0)] 1 (.t 5) (.t 6), [], [], 0⟩, 
  ⟨(some 2), none, .mv (.t 7), [], [], 0⟩] false [2])
 (.ret)))
def rs43 : List (Nat × Option (Option Nat)) := [(2, none)]

/-- towpath/towpathref11.readAddr -/
def mc44 : MC := .seq (.region 0 [
  ⟨(some 4), none, .alloc (.gen [(.bool false), (.u64 0), (.u64 0)]), [], [], 0⟩] false [1, 0, 4])
 (.seq (.seq (.region 1 [
  ⟨(some 5), none, .mv (.t 1), [], [], 0⟩] false [5, 0, 4])
 (.cond (.t 5)
 (.seq (.region 2 (
  ⟨(some 6), none, .mv (.t 0), [], [], 0⟩ :: 
  ⟨(some 7), none, .call false 24 [((.t 6), (some .k8)), ((.c (.n 8)), none)], [0], [], 1⟩ :: 
  ⟨(some 8), none, .mv (.t 0), [], [], 0⟩ :: 
  ⟨(some 9), none, .slcS 1 (.t 8) (some (.c (.n 8))) none, [2], [], 4⟩ :: 
  ⟨(some 10), none, .call false 24 [((.t 9), (some .k8)), ((.c (.n 8)), none)], [3, 1], [], 15⟩ :: 
  ⟨(some 11), none, .bldz .kg [(.bool false), (.u64 0), (.u64 0)] [(0, 1, (.c (.bool true))), (1, 1, (.t 7)), (2, 1, (.t 10))], [1, 4], [], 31⟩ :: 
  ⟨none, none, .store (some 3) (.t 4) (.t 11), (5 :: 4 :: 0 :: 1 :: 2 :: 3 :: 4 :: 5 :: []), [], 63⟩ :: []) true [4])
 (.ret))
 (.skip)))
 (.seq (.region 3 [
  ⟨(some 12), none, .mv (.t 0), [], [], 0⟩, 
  ⟨(some 13), none, .call false 24 [((.t 12), (some .k8)), ((.c (.n 4)), none)], [], [], 0⟩, 
  ⟨(some 14), none, .bin .shl (.t 13) (.c (.u64 32)), [], [], 0⟩, 
  ⟨(some 15), none, .bldz .kg [(.bool false), (.u64 0), (.u64 0)] [(1, 1, (.t 14))], [], [], 0⟩, 
  ⟨none, none, .store (some 3) (.t 4) (.t 15), [], [], 0⟩] false [4])
 (.ret)))
def rs44 : List (Nat × Option (Option Nat)) := [(4, (some (some 3)))]

/-- towpath/prefix.RightAddr -/
def mc46 : MC := .seq (.region 0 [
  ⟨(some 1), none, .box (.t 0), [], [], 0⟩, 
  ⟨(some 2), none, .mv (.c (.bool false)), [], [], 0⟩] false [1])
 (.seq (.region 1 (
  ⟨(some 3), none, .load (some 3) (.t 1), [], [], 0⟩ :: 
  ⟨(some 4), none, .load (some 3) (.t 1), [], [], 0⟩ :: 
  ⟨(some 5), none, .load (some 3) (.t 1), [], [], 0⟩ :: 
  ⟨(some 6), none, .call false 57 [((.t 5), none)], [2], [0, 1], 4⟩ :: 
  ⟨(some 7), none, .call false 56 [((.t 4), none), ((.t 6), none)], [1, 3, 3], [0], 14⟩ :: 
  ⟨(some 8), none, .binG [.bool, .u64, .u64] false (.t 3) (.t 7), [0, 4], [], 31⟩ :: 
  ⟨(some 2), none, .mv (.t 8), (5 :: 4 :: 0 :: 1 :: 2 :: 3 :: 4 :: 5 :: []), [], 63⟩ :: []) true [2])
 (.ret))
def rs46 : List (Nat × Option (Option Nat)) := [(2, none)]

/-- slices.Equal[[]byte,byte] -/
def mc52 : MC := .seq (.region 0 [
  ⟨(some 4), none, .mv (.c (.bool false)), [], [], 0⟩] false [0, 1])
 (.seq (.seq (.region 1 [
  ⟨(some 6), none, .mv (.t 0), [], [], 0⟩, 
  ⟨(some 7), none, .lenS (.t 6), [], [], 0⟩, 
  ⟨(some 8), none, .mv (.t 1), [], [], 0⟩, 
  ⟨(some 9), none, .lenS (.t 8), [], [], 0⟩, 
  ⟨(some 10), none, .bin .neq (.t 7) (.t 9), [], [], 0⟩] false [10, 0, 1])
 (.cond (.t 10)
 (.seq (.region 2 [
  ⟨(some 4), none, .mv (.c (.bool false)), [], [], 0⟩] false [4])
 (.ret))
 (.skip)))
 (.seq (.seq (.region 3 [
  ⟨(some 11), none, .mv (.t 0), [], [], 0⟩, 
  ⟨(some 12), none, .lenS (.t 11), [], [], 0⟩, 
  ⟨(some 13), none, .mv (.c (.n 0)), [], [], 0⟩] false [13, 12, 0, 1])
 (.block 0 (.loop (.seq (.region 4 [
  ⟨(some 14), none, .bin .lss (.t 13) (.t 12), [], [], 0⟩] false [14, 13, 0, 1, 12])
 (.seq (.cond (.t 14)
 (.skip)
 (.exit 0))
 (.seq (.block 1 (.seq (.region 5 [
  ⟨(some 15), none, .mv (.t 13), [], [], 0⟩, 
  ⟨(some 5), none, .mv (.t 15), [], [], 0⟩] false [0, 5, 1, 13, 12])
 (.seq (.region 6 (
  ⟨(some 16), none, .mv (.t 0), [], [], 0⟩ :: 
  ⟨(some 17), none, .mv (.t 5), [], [], 0⟩ :: 
  ⟨(some 18), none, .idxS 1 (.t 16) (.t 17), [0, 1], [], 3⟩ :: 
  ⟨(some 19), none, .load none (.t 18), [2], [], 7⟩ :: 
  ⟨(some 20), none, .mv (.t 1), [], [], 0⟩ :: 
  ⟨(some 21), none, .mv (.t 5), [], [], 0⟩ :: 
  ⟨(some 22), none, .idxS 1 (.t 20) (.t 21), [4, 5], [], 48⟩ :: 
  ⟨(some 23), none, .load none (.t 22), [6], [], 112⟩ :: 
  ⟨(some 24), none, .bin .neq (.t 19) (.t 23), [3, 7], [], 255⟩ :: []) true [24, 13, 12, 0, 1])
 (.cond (.t 24)
 (.seq (.region 7 [
  ⟨(some 4), none, .mv (.c (.bool false)), [], [], 0⟩] false [4])
 (.ret))
 (.skip)))))
 (.region 8 [
  ⟨(some 25), none, .bin .add (.t 13) (.c (.n 1)), [], [], 0⟩, 
  ⟨(some 13), none, .mv (.t 25), [], [], 0⟩] false [13, 12, 0, 1])))))))
 (.seq (.region 9 [
  ⟨(some 4), none, .mv (.c (.bool true)), [], [], 0⟩] false [4])
 (.ret))))
def rs52 : List (Nat × Option (Option Nat)) := [(4, none)]

/-- slices.Grow[[]byte,byte] -/
def mc53 : MC := .seq (.region 0 [
  ⟨(some 4), none, .mv (.c .nil), [], [], 0⟩] false [1, 0])
 (.seq (.seq (.region 1 [
  ⟨(some 5), none, .mv (.t 1), [], [], 0⟩, 
  ⟨(some 6), none, .bin .lss (.t 5) (.c (.n 0)), [], [], 0⟩] false [6, 1, 0])
 (.cond (.t 6)
 (.region 2 [
  ⟨(some 7), none, .bad, [], [], 0⟩, 
  ⟨none, none, .bad, [], [], 0⟩] false [1, 0])
 (.skip)))
 (.seq (.seq (.region 3 (
  ⟨(some 8), none, .mv (.t 1), [], [], 0⟩ :: 
  ⟨(some 9), none, .mv (.t 0), [], [], 0⟩ :: 
  ⟨(some 10), none, .capn (.t 9), [], [], 0⟩ :: 
  ⟨(some 11), none, .mv (.t 0), [], [], 0⟩ :: 
  ⟨(some 12), none, .lenS (.t 11), [], [], 0⟩ :: 
  ⟨(some 13), none, .bin .sub (.t 10) (.t 12), [], [], 0⟩ :: 
  ⟨(some 14), none, .bin .sub (.t 8) (.t 13), [], [], 0⟩ :: 
  ⟨(some 1), none, .mv (.t 14), [], [], 0⟩ :: []) false [1, 0])
 (.seq (.region 4 [
  ⟨(some 15), none, .mv (.t 1), [], [], 0⟩, 
  ⟨(some 16), none, .bin .gtr (.t 15) (.c (.n 0)), [], [], 0⟩] false [16, 0, 1])
 (.cond (.t 16)
 (.region 5 (
  ⟨(some 17), none, .mv (.t 0), [], [], 0⟩ :: 
  ⟨(some 18), none, .mv (.t 0), [], [], 0⟩ :: 
  ⟨(some 19), none, .capn (.t 18), [], [], 0⟩ :: 
  ⟨(some 20), none, .slcS 1 (.t 17) none (some (.t 19)), [], [], 0⟩ :: 
  ⟨(some 21), none, .mv (.t 1), [], [], 0⟩ :: 
  ⟨(some 22), none, .appz .k8 [(.u8 0)] 1 (.t 20) (.t 21), [], [], 0⟩ :: 
  ⟨(some 23), none, .mv (.t 0), [], [], 0⟩ :: 
  ⟨(some 24), none, .lenS (.t 23), [], [], 0⟩ :: 
  ⟨(some 25), none, .slcS 1 (.t 22) none (some (.t 24)), [], [], 0⟩ :: 
  ⟨(some 0), none, .mv (.t 25), [], [], 0⟩ :: []) false [0])
 (.skip))))
 (.seq (.region 6 [
  ⟨(some 26), none, .mv (.t 0), [], [], 0⟩, 
  ⟨(some 4), none, .mv (.t 26), [], [], 0⟩] false [4])
 (.ret))))
def rs53 : List (Nat × Option (Option Nat)) := [(4, none)]

/-- towpath/packet.value -/
def mc54 : MC := .seq (.region 0 [
  ⟨(some 2), none, .mv (.c (.u64 0)), [], [], 0⟩] false [0])
 (.seq (.region 1 [
  ⟨(some 3), none, .mv (.c (.u64 0)), [], [], 0⟩] false [0, 3])
 (.seq (.seq (.region 2 [
  ⟨(some 6), none, .mv (.t 0), [], [], 0⟩, 
  ⟨(some 7), none, .lenS (.t 6), [], [], 0⟩, 
  ⟨(some 8), none, .mv (.c (.n 0)), [], [], 0⟩] false [8, 7, 6, 3])
 (.block 0 (.loop (.seq (.region 3 [
  ⟨(some 9), none, .bin .lss (.t 8) (.t 7), [], [], 0⟩] false [9, 6, 8, 3, 7])
 (.seq (.cond (.t 9)
 (.skip)
 (.exit 0))
 (.seq (.block 1 (.seq (.region 4 [
  ⟨(some 10), none, .idxS 1 (.t 6) (.t 8), [], [], 0⟩, 
  ⟨(some 11), none, .load none (.t 10), [], [], 0⟩, 
  ⟨(some 5), none, .mv (.t 11), [], [], 0⟩] false [3, 5, 8, 7, 6])
 (.region 5 (
  ⟨(some 12), none, .mv (.t 3), [], [], 0⟩ :: 
  ⟨(some 13), none, .bin .shl (.t 12) (.c (.u64 8)), [], [], 0⟩ :: 
  ⟨(some 14), none, .mv (.t 5), [], [], 0⟩ :: 
  ⟨(some 15), none, .conv .u64 (.t 14), [], [], 0⟩ :: 
  ⟨(some 16), none, .bin .or (.t 13) (.t 15), [], [], 0⟩ :: 
  ⟨(some 3), none, .mv (.t 16), [], [], 0⟩ :: []) false [8, 7, 6, 3])))
 (.region 6 [
  ⟨(some 17), none, .bin .add (.t 8) (.c (.n 1)), [], [], 0⟩, 
  ⟨(some 8), none, .mv (.t 17), [], [], 0⟩] false [8, 7, 6, 3])))))))
 (.seq (.region 7 [
  ⟨(some 18), none, .mv (.t 3), [], [], 0⟩, 
  ⟨(some 2), none, .mv (.t 18), [], [], 0⟩] false [2])
 (.ret))))
def rs54 : List (Nat × Option (Option Nat)) := [(2, none)]

/-- towpath/packet.read -/
def mc55 : MC := .seq (.region 0 [
  ⟨(some 2), none, .alloc (.gen [(.bool false), (.u64 0), (.u64 0)]), [], [], 0⟩] false [0, 2])
 (.seq (.seq (.region 1 [
  ⟨(some 3), none, .mv (.t 0), [], [], 0⟩, 
  ⟨(some 4), none, .lenS (.t 3), [], [], 0⟩, 
  ⟨(some 5), none, .bin .eql (.t 4) (.c (.n 4)), [], [], 0⟩] false [5, 0, 2])
 (.cond (.t 5)
 (.seq (.region 2 [
  ⟨(some 6), none, .mv (.t 0), [], [], 0⟩, 
  ⟨(some 7), none, .call false 54 [((.t 6), (some .k8))], [], [], 0⟩, 
  ⟨(some 8), none, .bin .shl (.t 7) (.c (.u64 32)), [], [], 0⟩, 
  ⟨(some 9), none, .bldz .kg [(.bool false), (.u64 0), (.u64 0)] [(1, 1, (.t 8))], [], [], 0⟩, 
  ⟨none, none, .store (some 3) (.t 2) (.t 9), [], [], 0⟩] false [2])
 (.ret))
 (.skip)))
 (.seq (.region 3 (
  ⟨(some 10), none, .mv (.t 0), [], [], 0⟩ :: 
  ⟨(some 11), none, .slcS 1 (.t 10) none (some (.c (.n 8))), [0], [], 1⟩ :: 
  ⟨(some 12), none, .call false 54 [((.t 11), (some .k8))], [1], [], 3⟩ :: 
  ⟨(some 13), none, .mv (.t 0), [], [], 0⟩ :: 
  ⟨(some 14), none, .slcS 1 (.t 13) (some (.c (.n 8))) none, [3], [], 8⟩ :: 
  ⟨(some 15), none, .call false 54 [((.t 14), (some .k8))], [4, 2], [], 31⟩ :: 
  ⟨(some 16), none, .bldz .kg [(.bool false), (.u64 0), (.u64 0)] [(0, 1, (.c (.bool true))), (1, 1, (.t 12)), (2, 1, (.t 15))], [2, 5], [], 63⟩ :: 
  ⟨none, none, .store (some 3) (.t 2) (.t 16), (6 :: 5 :: 0 :: 1 :: 2 :: 3 :: 4 :: 5 :: 6 :: []), [], 127⟩ :: []) true [2])
 (.ret)))
def rs55 : List (Nat × Option (Option Nat)) := [(2, (some (some 3)))]

/-- towpath/prefix.masked -/
def mc56 : MC := .seq (.region 0 [
  ⟨(some 2), none, .box (.t 0), [], [], 0⟩, 
  ⟨(some 4), none, .alloc (.gen [(.bool false), (.u64 0), (.u64 0)]), [], [], 0⟩] false [1, 2, 4])
 (.seq (.block 0 (.seq (.region 1 [
  ⟨(some 6), none, .mv (.t 1), [], [], 0⟩, 
  ⟨(some 7), none, .bin .leq (.t 6) (.c (.n 0)), [], [], 0⟩, 
  ⟨(some 5), none, .mv (.t 7), [], [], 0⟩] false [5, 2, 4, 1])
 (.cond (.t 5)
 (.region 2 [
  ⟨(some 8), none, .fld 1 (.t 2), [], [], 0⟩, 
  ⟨none, none, .store none (.t 8) (.c (.u64 0)), [], [], 0⟩, 
  ⟨(some 9), none, .fld 2 (.t 2), [], [], 0⟩, 
  ⟨none, none, .store none (.t 9) (.c (.u64 0)), [], [], 0⟩] false [2, 4])
 (.seq (.region 3 [
  ⟨(some 11), none, .mv (.t 1), [], [], 0⟩, 
  ⟨(some 12), none, .bin .lss (.t 11) (.c (.n 64)), [], [], 0⟩, 
  ⟨(some 10), none, .mv (.t 12), [], [], 0⟩] false [10, 2, 1, 4])
 (.cond (.t 10)
 (.region 4 (
  ⟨(some 13), none, .fld 1 (.t 2), [], [], 0⟩ :: 
  ⟨(some 14), none, .load none (.t 13), [], [], 0⟩ :: 
  ⟨(some 15), none, .mv (.t 1), [], [], 0⟩ :: 
  ⟨(some 16), none, .bin .sub (.c (.n 64)) (.t 15), [], [], 0⟩ :: 
  ⟨(some 17), none, .conv .u64 (.t 16), [], [], 0⟩ :: 
  ⟨(some 18), none, .bin .shl (.c (.u64 1)) (.t 17), [], [], 0⟩ :: 
  ⟨(some 19), none, .bin .sub (.t 18) (.c (.u64 1)), [], [], 0⟩ :: 
  ⟨(some 20), none, .bin .andNot (.t 14) (.t 19), [], [], 0⟩ :: 
  ⟨(some 21), none, .fld 1 (.t 2), [], [], 0⟩ :: 
  ⟨none, none, .store none (.t 21) (.t 20), [], [], 0⟩ :: 
  ⟨(some 22), none, .fld 2 (.t 2), [], [], 0⟩ :: 
  ⟨none, none, .store none (.t 22) (.c (.u64 0)), [], [], 0⟩ :: []) false [2, 4])
 (.seq (.region 5 [
  ⟨(some 24), none, .mv (.t 1), [], [], 0⟩, 
  ⟨(some 25), none, .bin .lss (.t 24) (.c (.n 128)), [], [], 0⟩, 
  ⟨(some 23), none, .mv (.t 25), [], [], 0⟩] false [23, 2, 1, 4])
 (.cond (.t 23)
 (.region 6 (
  ⟨(some 26), none, .fld 2 (.t 2), [], [], 0⟩ :: 
  ⟨(some 27), none, .load none (.t 26), [], [], 0⟩ :: 
  ⟨(some 28), none, .mv (.t 1), [], [], 0⟩ :: 
  ⟨(some 29), none, .bin .sub (.c (.n 128)) (.t 28), [], [], 0⟩ :: 
  ⟨(some 30), none, .conv .u64 (.t 29), [], [], 0⟩ :: 
  ⟨(some 31), none, .bin .shl (.c (.u64 1)) (.t 30), [], [], 0⟩ :: 
  ⟨(some 32), none, .bin .sub (.t 31) (.c (.u64 1)), [], [], 0⟩ :: 
  ⟨(some 33), none, .bin .andNot (.t 27) (.t 32), [], [], 0⟩ :: 
  ⟨(some 34), none, .fld 2 (.t 2), [], [], 0⟩ :: 
  ⟨none, none, .store none (.t 34) (.t 33), [], [], 0⟩ :: []) false [2, 4])
 (.skip))))))))
 (.seq (.region 7 [
  ⟨(some 35), none, .load (some 3) (.t 2), [], [], 0⟩, 
  ⟨none, none, .store (some 3) (.t 4) (.t 35), [], [], 0⟩] false [4])
 (.ret)))
def rs56 : List (Nat × Option (Option Nat)) := [(4, (some (some 3)))]

/-- towpath/prefix.width -/
def mc57 : MC := .seq (.region 0 [
  ⟨(some 1), none, .box (.t 0), [], [], 0⟩, 
  ⟨(some 2), none, .mv (.c (.n 0)), [], [], 0⟩] false [1])
 (.seq (.seq (.region 1 [
  ⟨(some 3), none, .fld 0 (.t 1), [], [], 0⟩, 
  ⟨(some 4), none, .load none (.t 3), [], [], 0⟩] false [4])
 (.cond (.t 4)
 (.seq (.region 2 [
  ⟨(some 2), none, .mv (.c (.n 128)), [], [], 0⟩] false [2])
 (.ret))
 (.skip)))
 (.seq (.region 3 [
  ⟨(some 2), none, .mv (.c (.n 32)), [], [], 0⟩] false [2])
 (.ret)))
def rs57 : List (Nat × Option (Option Nat)) := [(2, none)]


theorem ok4 : fnOk Go.Proofs.Try.prog 4 mc4 rs4 = true := by decide +kernel
theorem ok5 : fnOk Go.Proofs.Try.prog 5 mc5 rs5 = true := by decide +kernel
theorem ok6 : fnOk Go.Proofs.Try.prog 6 mc6 rs6 = true := by decide +kernel
theorem ok7 : fnOk Go.Proofs.Try.prog 7 mc7 rs7 = true := by decide +kernel
theorem ok8 : fnOk Go.Proofs.Try.prog 8 mc8 rs8 = true := by decide +kernel
theorem ok9 : fnOk Go.Proofs.Try.prog 9 mc9 rs9 = true := by decide +kernel
theorem ok12 : fnOk Go.Proofs.Try.prog 12 mc12 rs12 = true := by decide +kernel
theorem ok13 : fnOk Go.Proofs.Try.prog 13 mc13 rs13 = true := by decide +kernel
theorem ok14 : fnOk Go.Proofs.Try.prog 14 mc14 rs14 = true := by decide +kernel
theorem ok15 : fnOk Go.Proofs.Try.prog 15 mc15 rs15 = true := by decide +kernel
theorem ok16 : fnOk Go.Proofs.Try.prog 16 mc16 rs16 = true := by decide +kernel
theorem ok17 : fnOk Go.Proofs.Try.prog 17 mc17 rs17 = true := by decide +kernel
theorem ok18 : fnOk Go.Proofs.Try.prog 18 mc18 rs18 = true := by decide +kernel
theorem ok19 : fnOk Go.Proofs.Try.prog 19 mc19 rs19 = true := by decide +kernel
theorem ok20 : fnOk Go.Proofs.Try.prog 20 mc20 rs20 = true := by decide +kernel
theorem ok21 : fnOk Go.Proofs.Try.prog 21 mc21 rs21 = true := by decide +kernel
theorem ok22 : fnOk Go.Proofs.Try.prog 22 mc22 rs22 = true := by decide +kernel
theorem ok23 : fnOk Go.Proofs.Try.prog 23 mc23 rs23 = true := by decide +kernel
theorem ok24 : fnOk Go.Proofs.Try.prog 24 mc24 rs24 = true := by decide +kernel
theorem ok26 : fnOk Go.Proofs.Try.prog 26 mc26 rs26 = true := by decide +kernel
theorem ok33 : fnOk Go.Proofs.Try.prog 33 mc33 rs33 = true := by decide +kernel
theorem ok34 : fnOk Go.Proofs.Try.prog 34 mc34 rs34 = true := by decide +kernel
theorem ok35 : fnOk Go.Proofs.Try.prog 35 mc35 rs35 = true := by decide +kernel
theorem ok36 : fnOk Go.Proofs.Try.prog 36 mc36 rs36 = true := by decide +kernel
theorem ok37 : fnOk Go.Proofs.Try.prog 37 mc37 rs37 = true := by decide +kernel
theorem ok38 : fnOk Go.Proofs.Try.prog 38 mc38 rs38 = true := by decide +kernel
theorem ok39 : fnOk Go.Proofs.Try.prog 39 mc39 rs39 = true := by decide +kernel
theorem ok40 : fnOk Go.Proofs.Try.prog 40 mc40 rs40 = true := by decide +kernel
theorem ok41 : fnOk Go.Proofs.Try.prog 41 mc41 rs41 = true := by decide +kernel
theorem ok42 : fnOk Go.Proofs.Try.prog 42 mc42 rs42 = true := by decide +kernel
theorem ok43 : fnOk Go.Proofs.Try.prog 43 mc43 rs43 = true := by decide +kernel
theorem ok44 : fnOk Go.Proofs.Try.prog 44 mc44 rs44 = true := by decide +kernel
theorem ok46 : fnOk Go.Proofs.Try.prog 46 mc46 rs46 = true := by decide +kernel
theorem ok52 : fnOk Go.Proofs.Try.prog 52 mc52 rs52 = true := by decide +kernel
theorem ok53 : fnOk Go.Proofs.Try.prog 53 mc53 rs53 = true := by decide +kernel
theorem ok54 : fnOk Go.Proofs.Try.prog 54 mc54 rs54 = true := by decide +kernel
theorem ok55 : fnOk Go.Proofs.Try.prog 55 mc55 rs55 = true := by decide +kernel
theorem ok56 : fnOk Go.Proofs.Try.prog 56 mc56 rs56 = true := by decide +kernel
theorem ok57 : fnOk Go.Proofs.Try.prog 57 mc57 rs57 = true := by decide +kernel
end Go.Vc.K
