/- The program's functions, resolved. Memory orders: what the functions of the package order compute. Litmus programs: what the functions of the package litmus compute. litmus.Check. litmus.strongFence, litmus.Expand$1. Nothing of its own. litmus.rebuilt, litmus.Expand. litmus.Expand. The calculus EV, part 18: loops over functions: rounds. -/
import Derived.Test.YtmgnpoleilcjoaaGreatProg
import Derived.Test.YtmgnpoleilcjoaaGreatVPab
import Derived.RangeFuncIn
set_option maxRecDepth 8000
set_option linter.unusedSimpArgs false
set_option linter.unusedVariables false
set_option linter.unusedSectionVars false
namespace Go.EV
open Go.Proofs

/- lockless/locklesslaw04.AxiomWitnesses -/
def Q62_0 : Sts := .op (some 1) (.box 24 (.t 0)) <|
 .op (some 2) (.mv (.c (.bool false))) <|
 .nil
def Q62_1 : Sts := .op (some 16) (.call 10 []) <|
 .op (some 17) (.notb (.t 16)) <|
 .nil
def Q62_2 : Sts := .op (some 2) (.mv (.c (.bool false))) <|
 .nil
def Q62_3 : Sts := .op (some 19) (.loadA 1 (.t 1)) <|
 .op (some 20) (.call 11 [(.t 19)]) <|
 .op (some 18) (.mv (.t 20)) <|
 .op (some 21) (.extract 0 (.t 18)) <|
 .op (some 22) (.extract 1 (.t 18)) <|
 .op (some 3) (.mv (.t 21)) <|
 .op (some 4) (.mv (.t 22)) <|
 .nil
def Q62_4 : Sts := .op (some 24) (.loadA 1 (.t 1)) <|
 .op (some 25) (.call 12 [(.t 24)]) <|
 .op (some 23) (.mv (.t 25)) <|
 .op (some 26) (.extract 0 (.t 23)) <|
 .op (some 27) (.extract 1 (.t 23)) <|
 .op (some 5) (.mv (.t 26)) <|
 .op (some 6) (.mv (.t 27)) <|
 .nil
def Q62_5 : Sts := .op (some 28) (.mv (.t 4)) <|
 .op (some 29) (.bin .neq (.t 28) (.c (.int .i64 0))) <|
 .nil
def Q62_6 : Sts := .op (some 30) (.mv (.t 3)) <|
 .op (some 31) (.len (.t 30)) <|
 .op (some 32) (.bin .eql (.t 31) (.c (.int .i64 0))) <|
 .op (some 33) (.mv (.t 32)) <|
 .cnd 33 true (
 .op (some 34) (.mv (.t 6)) <|
 .op (some 35) (.mv (.t 4)) <|
 .op (some 36) (.bin .eql (.t 34) (.t 35)) <|
 .nil) 37 (.t 36) <|
 .op (some 38) (.mv (.t 37)) <|
 .cnd 38 true (
 .op (some 39) (.loadA 1 (.t 1)) <|
 .op (some 40) (.call 24 [(.t 39)]) <|
 .op (some 41) (.mv (.t 4)) <|
 .op (some 42) (.bin .eql (.t 40) (.t 41)) <|
 .nil) 43 (.t 42) <|
 .op (some 2) (.mv (.t 43)) <|
 .nil
def Q62_7 : Sts := .op (some 44) (.mv (.t 3)) <|
 .op (some 45) (.len (.t 44)) <|
 .op (some 46) (.bin .eql (.t 45) (.c (.int .i64 0))) <|
 .op (some 47) (.mv (.t 46)) <|
 .cnd 47 false (
 .op (some 48) (.mv (.t 5)) <|
 .op (some 49) (.mv (.t 3)) <|
 .op (some 50) (.len (.t 49)) <|
 .op (some 51) (.bin .lss (.t 48) (.t 50)) <|
 .nil) 52 (.t 51) <|
 .op (some 53) (.mv (.t 52)) <|
 .cnd 53 false (
 .op (some 54) (.mv (.t 6)) <|
 .op (some 55) (.bin .neq (.t 54) (.c (.int .i64 0))) <|
 .nil) 56 (.t 55) <|
 .nil
def Q62_8 : Sts := .op (some 2) (.mv (.c (.bool false))) <|
 .nil
def Q62_9 : Sts := .op (some 7) (.mv (.c (.int .i64 0))) <|
 .nil
def Q62_10 : Sts := .op (some 57) (.mv (.t 7)) <|
 .op (some 58) (.mv (.t 3)) <|
 .op (some 59) (.len (.t 58)) <|
 .op (some 60) (.bin .lss (.t 57) (.t 59)) <|
 .nil
def Q62_11 : AT := .q (.op 0 (some 64) (.loadA 1 (.t 1)) <|
 .op 1 (some 65) (.mv (.t 3)) <|
 .op 2 (some 66) (.mv (.t 7)) <|
 .op 3 (some 67) (.iaddrS 1 (.t 65) (.t 66)) <|
 .op 4 (some 68) (.loadS (.t 67)) <|
 .nil) <|
 .s 5 (some 69) (.call 17 [(.t 64), (.t 68)]) true (
 .q (.op 6 (some 63) (.mv (.t 69)) <|
 .op 7 (some 70) (.extract 0 (.t 63)) <|
 .op 8 (some 71) (.extract 1 (.t 63)) <|
 .nil) <|
 .s 9 (some 8) (.alloc 45 [(.slice none 0 0), (.slice none 0 0), (.slice none 0 0), (.slice none 0 0)]) false (
 .q (.nil) <|
 .s 10 none (.store 4 (.t 8) (.t 70)) false (
 .q (.op 11 (some 9) (.mv (.t 71)) <|
 .nil) <|
 .fin) <|
 .no) <|
 .no) <|
 .s 9 (some 8) (.alloc 45 [(.slice none 0 0), (.slice none 0 0), (.slice none 0 0), (.slice none 0 0)]) false (
 .q (.nil) <|
 .s 5 (some 69) (.call 17 [(.t 64), (.t 68)]) false (
 .q (.op 6 (some 63) (.mv (.t 69)) <|
 .op 7 (some 70) (.extract 0 (.t 63)) <|
 .op 8 (some 71) (.extract 1 (.t 63)) <|
 .nil) <|
 .s 10 none (.store 4 (.t 8) (.t 70)) false (
 .q (.op 11 (some 9) (.mv (.t 71)) <|
 .nil) <|
 .fin) <|
 .no) <|
 .no) <|
 .no
def Q62_12 : Sts := .op (some 73) (.loadA 1 (.t 1)) <|
 .op (some 74) (.loadA 4 (.t 8)) <|
 .op (some 75) (.call 25 [(.t 73), (.t 74)]) <|
 .op (some 72) (.mv (.t 75)) <|
 .op (some 76) (.extract 0 (.t 72)) <|
 .op (some 77) (.extract 1 (.t 72)) <|
 .op (some 10) (.mv (.t 76)) <|
 .op (some 11) (.mv (.t 77)) <|
 .nil
def Q62_13 : Sts := .op (some 79) (.loadA 1 (.t 1)) <|
 .op (some 80) (.loadA 4 (.t 8)) <|
 .op (some 81) (.call 26 [(.t 79), (.t 80)]) <|
 .op (some 78) (.mv (.t 81)) <|
 .op (some 82) (.extract 0 (.t 78)) <|
 .op (some 83) (.extract 1 (.t 78)) <|
 .op (some 12) (.mv (.t 82)) <|
 .op (some 13) (.mv (.t 83)) <|
 .nil
def Q62_14 : AT := .q (.op 0 (some 85) (.loadA 1 (.t 1)) <|
 .op 1 (some 86) (.mv (.t 3)) <|
 .op 2 (some 87) (.mv (.t 7)) <|
 .op 3 (some 88) (.iaddrS 1 (.t 86) (.t 87)) <|
 .op 4 (some 89) (.loadS (.t 88)) <|
 .nil) <|
 .s 5 (some 90) (.call 16 [(.t 85), (.t 89)]) true (
 .q (.op 6 (some 84) (.mv (.t 90)) <|
 .op 7 (some 91) (.extract 0 (.t 84)) <|
 .op 8 (some 92) (.extract 1 (.t 84)) <|
 .op 9 (some 14) (.mv (.t 91)) <|
 .op 10 (some 15) (.mv (.t 92)) <|
 .nil) <|
 .fin) <|
 .no
def Q62_15 : Sts := .op (some 93) (.mv (.t 9)) <|
 .op (some 94) (.bin .neq (.t 93) (.c (.int .i64 0))) <|
 .op (some 95) (.mv (.t 94)) <|
 .cnd 95 false (
 .op (some 96) (.mv (.t 11)) <|
 .op (some 97) (.bin .neq (.t 96) (.c (.int .i64 0))) <|
 .nil) 98 (.t 97) <|
 .op (some 99) (.mv (.t 98)) <|
 .cnd 99 false (
 .op (some 100) (.mv (.t 13)) <|
 .op (some 101) (.bin .neq (.t 100) (.c (.int .i64 0))) <|
 .nil) 102 (.t 101) <|
 .op (some 103) (.mv (.t 102)) <|
 .cnd 103 false (
 .op (some 104) (.mv (.t 15)) <|
 .op (some 105) (.bin .neq (.t 104) (.c (.int .i64 0))) <|
 .nil) 106 (.t 105) <|
 .op (some 107) (.mv (.t 106)) <|
 .cnd 107 false (
 .op (some 108) (.mv (.t 10)) <|
 .op (some 109) (.bin .neq (.t 108) (.c (.int .i64 0))) <|
 .nil) 110 (.t 109) <|
 .op (some 111) (.mv (.t 110)) <|
 .cnd 111 false (
 .op (some 112) (.mv (.t 14)) <|
 .op (some 113) (.notb (.t 112)) <|
 .nil) 114 (.t 113) <|
 .op (some 115) (.mv (.t 114)) <|
 .cnd 115 false (
 .op (some 116) (.mv (.t 12)) <|
 .op (some 117) (.mv (.t 3)) <|
 .op (some 118) (.mv (.t 7)) <|
 .op (some 119) (.iaddrS 1 (.t 117) (.t 118)) <|
 .op (some 120) (.loadS (.t 119)) <|
 .op (some 121) (.call 20 [(.t 116), (.t 120)]) <|
 .op (some 122) (.notb (.t 121)) <|
 .nil) 123 (.t 122) <|
 .nil
def Q62_16 : Sts := .op (some 2) (.mv (.c (.bool false))) <|
 .nil
def Q62_17 : AT := .q (.op 0 (some 124) (.mv (.t 7)) <|
 .op 1 (some 125) (.bin .gtr (.t 124) (.c (.int .i64 0))) <|
 .op 2 (some 126) (.mv (.t 125)) <|
 .g 126 true (
 .op 3 (some 127) (.mv (.t 3)) <|
 .op 4 (some 128) (.mv (.t 7)) <|
 .op 5 (some 129) (.bin .sub (.t 128) (.c (.int .i64 1))) <|
 .op 6 (some 130) (.iaddrS 1 (.t 127) (.t 129)) <|
 .op 7 (some 131) (.loadS (.t 130)) <|
 .op 8 (some 132) (.mv (.t 3)) <|
 .op 9 (some 133) (.mv (.t 7)) <|
 .op 10 (some 134) (.iaddrS 1 (.t 132) (.t 133)) <|
 .op 11 (some 135) (.loadS (.t 134)) <|
 .op 12 (some 136) (.call 31 [(.t 131), (.t 135)]) <|
 .op 13 (some 137) (.notb (.t 136)) <|
 .nil) 14 138 (.t 137) <|
 .nil) <|
 .fin
def Q62_18 : Sts := .op (some 2) (.mv (.c (.bool false))) <|
 .nil
def Q62_19 : Sts := .op (some 61) (.mv (.t 7)) <|
 .op (some 62) (.bin .add (.t 61) (.c (.int .i64 1))) <|
 .op (some 7) (.mv (.t 62)) <|
 .nil
def Q62_L20 : RCode := (.seq (.seq (.reg Q62_10) (.cond (.t 60) .skip (.exit 0))) (.seq (.block 1 (.seq (.any Q62_11) (.seq (.reg Q62_12) (.seq (.reg Q62_13) (.seq (.any Q62_14) (.seq (.seq (.reg Q62_15) (.cond (.t 123) (.seq (.reg Q62_16) .ret) .skip)) (.seq (.any Q62_17) (.cond (.t 138) (.seq (.reg Q62_18) .ret) .skip)))))))) (.reg Q62_19)))
def Q62_20 : Sts := .op (some 2) (.mv (.c (.bool true))) <|
 .nil
def Q62 : RFun := ⟨139, [0, 1, 2, 3, 4, 5, 6, 7, 8, 9, 10, 11, 12, 13, 14, 15], (.seq (.reg Q62_0) (.seq (.seq (.reg Q62_1) (.cond (.t 17) (.seq (.reg Q62_2) .ret) .skip)) (.seq (.reg Q62_3) (.seq (.reg Q62_4) (.seq (.seq (.reg Q62_5) (.cond (.t 29) (.seq (.reg Q62_6) .ret) .skip)) (.seq (.seq (.reg Q62_7) (.cond (.t 56) (.seq (.reg Q62_8) .ret) .skip)) (.seq (.seq (.reg Q62_9) (.block 0 (.loop Q62_L20))) (.seq (.reg Q62_20) .ret)))))))), [.tmp 2]⟩
theorem Q62_ok : compF Tryz.prog [0, 1, 2, 3, 4, 5, 6, 7, 8, 9, 10, 11, 12, 13, 14, 15] [15, 20, 31, 71, 88, 41, 76, 86, 65, 83, 81, 114, 117, 119, 122, 68, 100, 103, 104, 105, 137, 138, 64, 72, 96, 99, 158, 159, 132, 56, 93, 94, 130, 131, 155, 62, 23, 170] 9 = some Q62 := by kernel_rfl

/- lockless/locklesslaw04.awake -/
def Q63_0 : Sts := .op (some 0) (.mv (.c (.bool false))) <|
 .nil
def Q63_1 : Sts := .op (some 4) (.call 32 []) <|
 .op (some 5) (.call 11 [(.t 4)]) <|
 .op (some 3) (.mv (.t 5)) <|
 .op (some 6) (.extract 0 (.t 3)) <|
 .op (some 7) (.extract 1 (.t 3)) <|
 .op (some 1) (.mv (.t 6)) <|
 .op (some 2) (.mv (.t 7)) <|
 .nil
def Q63_2 : Sts := .op (some 8) (.mv (.t 1)) <|
 .op (some 9) (.len (.t 8)) <|
 .op (some 10) (.bin .eql (.t 9) (.c (.int .i64 4))) <|
 .op (some 11) (.mv (.t 10)) <|
 .cnd 11 true (
 .op (some 12) (.mv (.t 1)) <|
 .op (some 13) (.iaddrS 1 (.t 12) (.c (.int .i64 0))) <|
 .op (some 14) (.loadS (.t 13)) <|
 .op (some 15) (.buildSl 3 5 [(.int .i64 0), (.int .i64 0), (.int .i64 0), (.int .i64 0), (.int .i64 0)] [(0, 1, (.c (.int .i64 0))), (1, 1, (.c (.int .i64 0))), (2, 1, (.c (.int .i64 1))), (3, 1, (.c (.int .i64 1))), (4, 1, (.c (.int .i64 0)))]) <|
 .op (some 16) (.call 20 [(.t 14), (.t 15)]) <|
 .nil) 17 (.t 16) <|
 .op (some 18) (.mv (.t 17)) <|
 .cnd 18 true (
 .op (some 19) (.mv (.t 2)) <|
 .op (some 20) (.bin .eql (.t 19) (.c (.int .i64 0))) <|
 .nil) 21 (.t 20) <|
 .op (some 0) (.mv (.t 21)) <|
 .nil
def Q63 : RFun := ⟨22, [0, 1, 2], (.seq (.reg Q63_0) (.seq (.reg Q63_1) (.seq (.reg Q63_2) .ret))), [.tmp 0]⟩
theorem Q63_ok : compF Tryz.prog [0, 1, 2] [15, 20, 31, 71, 88, 41, 76, 86, 65, 83, 81, 114, 117, 119, 122, 68, 100, 103, 104, 105, 137, 138, 64, 72, 96, 99, 158, 159, 132, 56, 93, 94, 130, 131, 155, 62, 23, 170] 10 = some Q63 := by kernel_rfl

/- lockless/axiom.Outcomes -/
def Q6_0 : Sts := .op (some 1) (.box 24 (.t 0)) <|
 .op (some 2) (.mv (.c (.slice none 0 0))) <|
 .op (some 3) (.mv (.c (.int .i64 0))) <|
 .nil
def Q6_1 : Sts := .op (some 9) (.loadA 1 (.t 1)) <|
 .op (some 10) (.call 33 [(.t 9)]) <|
 .op (some 8) (.mv (.t 10)) <|
 .op (some 11) (.extract 0 (.t 8)) <|
 .op (some 12) (.extract 1 (.t 8)) <|
 .op (some 4) (.alloc 74 [(.slice none 0 0)]) <|
 .op none (.store 1 (.t 4) (.t 11)) <|
 .op (some 5) (.mv (.t 12)) <|
 .nil
def Q6_2 : Sts := .op (some 13) (.mv (.t 5)) <|
 .op (some 14) (.bin .neq (.t 13) (.c (.int .i64 0))) <|
 .nil
def Q6_3 : Sts := .op (some 15) (.mv (.t 5)) <|
 .op (some 2) (.mv (.c (.slice none 0 0))) <|
 .op (some 3) (.mv (.t 15)) <|
 .nil
def Q6_4 : Sts := .op (some 6) (.alloc 26 [(.slice none 0 0)]) <|
 .nil
def Q6_5 : Sts := .op (some 16) (.loadS (.t 4)) <|
 .op (some 17) (.call 34 [(.t 16)]) <|
 .nil
def Q6_6 : Sts := .op (some 7) (.alloc 45 [(.slice none 0 0), (.slice none 0 0), (.slice none 0 0), (.slice none 0 0)]) <|
 .op none (.store 4 (.t 7) (.t 18)) <|
 .nil
def Q6_7 : AT := .q (.op 0 (some 19) (.loadS (.t 6)) <|
 .op 1 (some 20) (.loadS (.t 4)) <|
 .op 2 (some 21) (.loadA 4 (.t 7)) <|
 .nil) <|
 .s 3 (some 22) (.call 35 [(.t 20), (.t 21)]) false (
 .q (.nil) <|
 .s 4 (some 23) (.buildSl 34 1 [(.slice none 0 0)] [(0, 1, (.t 22))]) false (
 .q (.nil) <|
 .s 5 (some 24) (.append 34 1 24 [(.slice none 0 0)] (.t 19) (.t 23)) true (
 .q (.nil) <|
 .s 6 none (.store 1 (.t 6) (.t 24)) true (
 .q (.nil) <|
 .fin) <|
 .no) <|
 .no) <|
 .no) <|
 .no
def Q6_8 : Sts := .op (some 25) (.loadS (.t 6)) <|
 .op (some 26) (.len (.t 25)) <|
 .op (some 27) (.bin .gtr (.t 26) (.c (.int .i64 4096))) <|
 .nil
def Q6_9 : Sts := .op (some 28) (.loadS (.t 6)) <|
 .op (some 29) (.call 36 [(.t 28)]) <|
 .op none (.store 1 (.t 6) (.t 29)) <|
 .nil
def R_axiom_Outcomes_A10 : RCode := (.reg Q6_6)
def R_axiom_Outcomes_B10 : RCode := (.block 1 (.seq (.any Q6_7) (.seq (.reg Q6_8) (.cond (.t 27) (.reg Q6_9) .skip))))
def Q6_11 : Sts := .op (some 30) (.loadS (.t 6)) <|
 .op (some 31) (.call 36 [(.t 30)]) <|
 .op (some 2) (.mv (.t 31)) <|
 .op (some 3) (.mv (.c (.int .i64 0))) <|
 .nil
def Q6 : RFun := ⟨32, [0, 1, 2, 3, 4, 5, 6, 7, 17, 18], (.seq (.reg Q6_0) (.seq (.reg Q6_1) (.seq (.seq (.reg Q6_2) (.cond (.t 14) (.seq (.reg Q6_3) .ret) .skip)) (.seq (.reg Q6_4) (.seq (.seq (.reg Q6_5) (.block 0 (.rangeF (.t 17) [18] R_axiom_Outcomes_A10 R_axiom_Outcomes_B10))) (.seq (.reg Q6_11) .ret)))))), [.tmp 2, .tmp 3]⟩
theorem Q6_ok : compF Tryz.prog [0, 1, 2, 3, 4, 5, 6, 7, 17, 18] [15, 20, 31, 71, 88, 41, 76, 86, 65, 83, 81, 114, 117, 119, 122, 68, 100, 103, 104, 105, 137, 138, 64, 72, 96, 99, 158, 159, 132, 56, 93, 94, 130, 131, 155, 62, 23, 170] 11 = some Q6 := by kernel_rfl

/- lockless/axiom.Count -/
def Q2_0 : Sts := .op (some 1) (.box 24 (.t 0)) <|
 .op (some 2) (.mv (.c (.int .i64 0))) <|
 .op (some 3) (.mv (.c (.int .i64 0))) <|
 .nil
def Q2_1 : Sts := .op (some 8) (.loadA 1 (.t 1)) <|
 .op (some 9) (.call 33 [(.t 8)]) <|
 .op (some 7) (.mv (.t 9)) <|
 .op (some 10) (.extract 0 (.t 7)) <|
 .op (some 11) (.extract 1 (.t 7)) <|
 .op (some 4) (.mv (.t 10)) <|
 .op (some 5) (.mv (.t 11)) <|
 .nil
def Q2_2 : Sts := .op (some 12) (.mv (.t 5)) <|
 .op (some 13) (.bin .neq (.t 12) (.c (.int .i64 0))) <|
 .nil
def Q2_3 : Sts := .op (some 14) (.mv (.t 5)) <|
 .op (some 2) (.mv (.c (.int .i64 0))) <|
 .op (some 3) (.mv (.t 14)) <|
 .nil
def Q2_4 : Sts := .op (some 6) (.alloc 3 [(.int .i64 0)]) <|
 .op none (.store 1 (.t 6) (.c (.int .i64 0))) <|
 .nil
def Q2_5 : Sts := .op (some 15) (.mv (.t 4)) <|
 .op (some 16) (.call 34 [(.t 15)]) <|
 .nil
def Q2_6 : Sts := .op (some 18) (.loadI .i64 (.t 6)) <|
 .op (some 19) (.bin .add (.t 18) (.c (.int .i64 1))) <|
 .op none (.store 1 (.t 6) (.t 19)) <|
 .nil
def R_axiom_Count_A7 : RCode := .skip
def R_axiom_Count_B7 : RCode := (.block 1 (.reg Q2_6))
def Q2_8 : Sts := .op (some 20) (.loadI .i64 (.t 6)) <|
 .op (some 2) (.mv (.t 20)) <|
 .op (some 3) (.mv (.c (.int .i64 0))) <|
 .nil
def Q2 : RFun := ⟨21, [0, 1, 2, 3, 4, 5, 6, 16], (.seq (.reg Q2_0) (.seq (.reg Q2_1) (.seq (.seq (.reg Q2_2) (.cond (.t 13) (.seq (.reg Q2_3) .ret) .skip)) (.seq (.reg Q2_4) (.seq (.seq (.reg Q2_5) (.block 0 (.rangeF (.t 16) [17] R_axiom_Count_A7 R_axiom_Count_B7))) (.seq (.reg Q2_8) .ret)))))), [.tmp 2, .tmp 3]⟩
theorem Q2_ok : compF Tryz.prog [0, 1, 2, 3, 4, 5, 6, 16] [15, 20, 31, 71, 88, 41, 76, 86, 65, 83, 81, 114, 117, 119, 122, 68, 100, 103, 104, 105, 137, 138, 64, 72, 96, 99, 158, 159, 132, 56, 93, 94, 130, 131, 155, 62, 23, 170] 12 = some Q2 := by kernel_rfl

/- lockless/axiom.Allowed -/
def Q1_0 : Sts := .op (some 2) (.box 24 (.t 0)) <|
 .op (some 4) (.mv (.c (.bool false))) <|
 .op (some 5) (.mv (.c (.int .i64 0))) <|
 .nil
def Q1_1 : Sts := .op (some 9) (.loadA 1 (.t 2)) <|
 .op (some 10) (.mv (.t 1)) <|
 .op (some 11) (.call 17 [(.t 9), (.t 10)]) <|
 .op (some 8) (.mv (.t 11)) <|
 .op (some 12) (.extract 0 (.t 8)) <|
 .op (some 13) (.extract 1 (.t 8)) <|
 .op (some 6) (.alloc 45 [(.slice none 0 0), (.slice none 0 0), (.slice none 0 0), (.slice none 0 0)]) <|
 .op none (.store 4 (.t 6) (.t 12)) <|
 .op (some 7) (.mv (.t 13)) <|
 .nil
def Q1_2 : Sts := .op (some 14) (.mv (.t 7)) <|
 .op (some 15) (.bin .eql (.t 14) (.c (.int .i64 3))) <|
 .nil
def Q1_3 : Sts := .op (some 4) (.mv (.c (.bool false))) <|
 .op (some 5) (.mv (.c (.int .i64 0))) <|
 .nil
def Q1_4 : Sts := .op (some 16) (.mv (.t 7)) <|
 .op (some 17) (.bin .eql (.t 16) (.c (.int .i64 0))) <|
 .op (some 18) (.mv (.t 7)) <|
 .op (some 4) (.mv (.t 17)) <|
 .op (some 5) (.mv (.t 18)) <|
 .nil
def Q1 : RFun := ⟨19, [0, 1, 2, 4, 5, 7], (.seq (.reg Q1_0) (.seq (.reg Q1_1) (.seq (.seq (.reg Q1_2) (.cond (.t 15) (.seq (.reg Q1_3) .ret) .skip)) (.seq (.reg Q1_4) .ret)))), [.tmp 4, .tmp 5]⟩
theorem Q1_ok : compF Tryz.prog [0, 1, 2, 4, 5, 7] [15, 20, 31, 71, 88, 41, 76, 86, 65, 83, 81, 114, 117, 119, 122, 68, 100, 103, 104, 105, 137, 138, 64, 72, 96, 99, 158, 159, 132, 56, 93, 94, 130, 131, 155, 62, 23, 170] 16 = some Q1 := by kernel_rfl

/- lockless/locklessref01.Ints -/
def Q65_0 : Sts := .op (some 4) (.mv (.c (.bool false))) <|
 .nil
def Q65_1 : Sts := .op (some 6) (.mv (.t 0)) <|
 .op (some 7) (.len (.t 6)) <|
 .op (some 8) (.mv (.t 1)) <|
 .op (some 9) (.len (.t 8)) <|
 .op (some 10) (.bin .neq (.t 7) (.t 9)) <|
 .nil
def Q65_2 : Sts := .op (some 4) (.mv (.c (.bool false))) <|
 .nil
def Q65_3 : Sts := .op (some 5) (.mv (.c (.int .i64 0))) <|
 .nil
def Q65_4 : Sts := .op (some 11) (.mv (.t 5)) <|
 .op (some 12) (.mv (.t 0)) <|
 .op (some 13) (.len (.t 12)) <|
 .op (some 14) (.bin .lss (.t 11) (.t 13)) <|
 .nil
def Q65_5 : AT := .q (.op 0 (some 17) (.mv (.t 0)) <|
 .op 1 (some 18) (.mv (.t 5)) <|
 .op 2 (some 19) (.iaddrS 1 (.t 17) (.t 18)) <|
 .op 3 (some 20) (.loadI .i64 (.t 19)) <|
 .op 4 (some 21) (.mv (.t 1)) <|
 .op 5 (some 22) (.mv (.t 5)) <|
 .op 6 (some 23) (.iaddrS 1 (.t 21) (.t 22)) <|
 .op 7 (some 24) (.loadI .i64 (.t 23)) <|
 .op 8 (some 25) (.bin .neq (.t 20) (.t 24)) <|
 .nil) <|
 .fin
def Q65_6 : Sts := .op (some 4) (.mv (.c (.bool false))) <|
 .nil
def Q65_7 : Sts := .op (some 15) (.mv (.t 5)) <|
 .op (some 16) (.bin .add (.t 15) (.c (.int .i64 1))) <|
 .op (some 5) (.mv (.t 16)) <|
 .nil
def Q65_L8 : RCode := (.seq (.seq (.reg Q65_4) (.cond (.t 14) .skip (.exit 0))) (.seq (.block 1 (.seq (.any Q65_5) (.cond (.t 25) (.seq (.reg Q65_6) .ret) .skip))) (.reg Q65_7)))
def Q65_8 : Sts := .op (some 4) (.mv (.c (.bool true))) <|
 .nil
def Q65 : RFun := ⟨26, [0, 1, 4, 5], (.seq (.reg Q65_0) (.seq (.seq (.reg Q65_1) (.cond (.t 10) (.seq (.reg Q65_2) .ret) .skip)) (.seq (.seq (.reg Q65_3) (.block 0 (.loop Q65_L8))) (.seq (.reg Q65_8) .ret)))), [.tmp 4]⟩
theorem Q65_ok : compF Tryz.prog [0, 1, 4, 5] [15, 20, 31, 71, 88, 41, 76, 86, 65, 83, 81, 114, 117, 119, 122, 68, 100, 103, 104, 105, 137, 138, 64, 72, 96, 99, 158, 159, 132, 56, 93, 94, 130, 131, 155, 62, 23, 170] 20 = some Q65 := by kernel_rfl

/- lockless/litmus.Check -/
def Q53_0 : Sts := .op (some 1) (.box 24 (.t 0)) <|
 .op (some 2) (.mv (.c (.int .i64 0))) <|
 .nil
def Q53_1 : Sts := .op (some 9) (.loadA 1 (.t 1)) <|
 .op (some 10) (.call 63 [(.t 9)]) <|
 .op (some 11) (.notb (.t 10)) <|
 .nil
def Q53_2 : Sts := .op (some 2) (.mv (.c (.int .i64 2))) <|
 .nil
def Q53_3 : Sts := .op (some 12) (.faddr 0 (.t 1)) <|
 .op (some 13) (.loadS (.t 12)) <|
 .op (some 14) (.len (.t 13)) <|
 .op (some 15) (.bin .eql (.t 14) (.c (.int .i64 0))) <|
 .nil
def Q53_4 : Sts := .op (some 2) (.mv (.c (.int .i64 1))) <|
 .nil
def Q53_5 : Sts := .op (some 16) (.faddr 0 (.t 1)) <|
 .op (some 17) (.loadS (.t 16)) <|
 .op (some 18) (.len (.t 17)) <|
 .op (some 19) (.mv (.c (.int .i64 0))) <|
 .nil
def Q53_6 : Sts := .op (some 20) (.bin .lss (.t 19) (.t 18)) <|
 .nil
def Q53_7 : Sts := .op (some 21) (.iaddrS 1 (.t 17) (.t 19)) <|
 .op (some 22) (.loadS (.t 21)) <|
 .op (some 4) (.mv (.t 22)) <|
 .nil
def Q53_8 : Sts := .op (some 23) (.mv (.t 4)) <|
 .op (some 24) (.len (.t 23)) <|
 .op (some 25) (.mv (.c (.int .i64 0))) <|
 .nil
def Q53_9 : Sts := .op (some 26) (.bin .lss (.t 25) (.t 24)) <|
 .nil
def Q53_10 : Sts := .op (some 27) (.iaddrS 5 (.t 23) (.t 25)) <|
 .op (some 28) (.loadA 5 (.t 27)) <|
 .op (some 6) (.alloc 83 [(.int .i64 0), (.int .i64 0), (.int .i64 0), (.int .i64 0), (.int .i64 0)]) <|
 .op none (.store 5 (.t 6) (.t 28)) <|
 .nil
def Q53_11 : Sts := .op (some 30) (.faddr 0 (.t 6)) <|
 .op (some 31) (.loadI .i64 (.t 30)) <|
 .op (some 32) (.faddr 4 (.t 6)) <|
 .op (some 33) (.loadI .i64 (.t 32)) <|
 .op (some 34) (.call 64 [(.t 31), (.t 33)]) <|
 .op (some 29) (.mv (.t 34)) <|
 .op (some 35) (.extract 0 (.t 29)) <|
 .op (some 36) (.extract 1 (.t 29)) <|
 .op (some 7) (.mv (.t 35)) <|
 .op (some 8) (.mv (.t 36)) <|
 .nil
def Q53_12 : Sts := .op (some 37) (.mv (.t 8)) <|
 .op (some 38) (.bin .neq (.t 37) (.c (.int .i64 0))) <|
 .op (some 39) (.mv (.t 38)) <|
 .cnd 39 false (
 .op (some 40) (.mv (.t 7)) <|
 .op (some 41) (.notb (.t 40)) <|
 .nil) 42 (.t 41) <|
 .op (some 43) (.mv (.t 42)) <|
 .cnd 43 false (
 .op (some 44) (.loadA 5 (.t 6)) <|
 .op (some 45) (.call 65 [(.t 44)]) <|
 .op (some 46) (.notb (.t 45)) <|
 .nil) 47 (.t 46) <|
 .nil
def Q53_13 : Sts := .op (some 2) (.mv (.c (.int .i64 1))) <|
 .nil
def Q53_14 : Sts := .op (some 48) (.bin .add (.t 25) (.c (.int .i64 1))) <|
 .op (some 25) (.mv (.t 48)) <|
 .nil
def Q53_L15 : RCode := (.seq (.reg Q53_9) (.seq (.cond (.t 26) .skip (.exit 2)) (.seq (.block 3 (.seq (.reg Q53_10) (.seq (.reg Q53_11) (.seq (.reg Q53_12) (.cond (.t 47) (.seq (.reg Q53_13) .ret) .skip))))) (.reg Q53_14))))
def Q53_15 : Sts := .op (some 49) (.bin .add (.t 19) (.c (.int .i64 1))) <|
 .op (some 19) (.mv (.t 49)) <|
 .nil
def Q53_L16 : RCode := (.seq (.reg Q53_6) (.seq (.cond (.t 20) .skip (.exit 0)) (.seq (.block 1 (.seq (.reg Q53_7) (.seq (.reg Q53_8) (.block 2 (.loop Q53_L15))))) (.reg Q53_15))))
def Q53_16 : Sts := .op (some 2) (.mv (.c (.int .i64 0))) <|
 .nil
def Q53 : RFun := ⟨50, [0, 1, 2, 4, 6, 7, 8, 17, 18, 19, 23, 24, 25], (.seq (.reg Q53_0) (.seq (.seq (.reg Q53_1) (.cond (.t 11) (.seq (.reg Q53_2) .ret) .skip)) (.seq (.seq (.reg Q53_3) (.cond (.t 15) (.seq (.reg Q53_4) .ret) .skip)) (.seq (.seq (.reg Q53_5) (.block 0 (.loop Q53_L16))) (.seq (.reg Q53_16) .ret))))), [.tmp 2]⟩
theorem Q53_ok : compF Tryz.prog [0, 1, 2, 4, 6, 7, 8, 17, 18, 19, 23, 24, 25] [15, 20, 31, 71, 88, 41, 76, 86, 65, 83, 81, 114, 117, 119, 122, 68, 100, 103, 104, 105, 137, 138, 64, 72, 96, 99, 158, 159, 132, 56, 93, 94, 130, 131, 155, 62, 23, 170] 24 = some Q53 := by kernel_rfl

/- lockless/axiom.Fails -/
def Q4_0 : Sts := .op (some 2) (.box 24 (.t 0)) <|
 .op (some 3) (.box 45 (.t 1)) <|
 .op (some 4) (.mv (.c (.int .i64 0))) <|
 .op (some 5) (.mv (.c (.int .i64 0))) <|
 .nil
def Q4_1 : Sts := .op (some 9) (.loadA 1 (.t 2)) <|
 .op (some 10) (.call 33 [(.t 9)]) <|
 .op (some 8) (.mv (.t 10)) <|
 .op (some 11) (.extract 0 (.t 8)) <|
 .op (some 12) (.extract 1 (.t 8)) <|
 .op (some 6) (.mv (.t 11)) <|
 .op (some 7) (.mv (.t 12)) <|
 .nil
def Q4_2 : Sts := .op (some 13) (.mv (.t 7)) <|
 .op (some 14) (.bin .neq (.t 13) (.c (.int .i64 0))) <|
 .nil
def Q4_3 : Sts := .op (some 15) (.mv (.t 7)) <|
 .op (some 4) (.mv (.c (.int .i64 0))) <|
 .op (some 5) (.mv (.t 15)) <|
 .nil
def Q4_4 : Sts := .op (some 16) (.mv (.t 6)) <|
 .op (some 17) (.loadA 4 (.t 3)) <|
 .op (some 18) (.call 66 [(.t 16), (.t 17)]) <|
 .op (some 4) (.mv (.t 18)) <|
 .op (some 5) (.mv (.c (.int .i64 0))) <|
 .nil
def Q4 : RFun := ⟨19, [0, 1, 2, 3, 4, 5, 6, 7], (.seq (.reg Q4_0) (.seq (.reg Q4_1) (.seq (.seq (.reg Q4_2) (.cond (.t 14) (.seq (.reg Q4_3) .ret) .skip)) (.seq (.reg Q4_4) .ret)))), [.tmp 4, .tmp 5]⟩
theorem Q4_ok : compF Tryz.prog [0, 1, 2, 3, 4, 5, 6, 7] [15, 20, 31, 71, 88, 41, 76, 86, 65, 83, 81, 114, 117, 119, 122, 68, 100, 103, 104, 105, 137, 138, 64, 72, 96, 99, 158, 159, 132, 56, 93, 94, 130, 131, 155, 62, 23, 170] 25 = some Q4 := by kernel_rfl

/- lockless/axiom.Outcome -/
def Q5_0 : Sts := .op (some 2) (.box 24 (.t 0)) <|
 .op (some 3) (.box 45 (.t 1)) <|
 .op (some 4) (.mv (.c (.slice none 0 0))) <|
 .op (some 5) (.mv (.c (.int .i64 0))) <|
 .nil
def Q5_1 : Sts := .op (some 9) (.loadA 1 (.t 2)) <|
 .op (some 10) (.call 33 [(.t 9)]) <|
 .op (some 8) (.mv (.t 10)) <|
 .op (some 11) (.extract 0 (.t 8)) <|
 .op (some 12) (.extract 1 (.t 8)) <|
 .op (some 6) (.mv (.t 11)) <|
 .op (some 7) (.mv (.t 12)) <|
 .nil
def Q5_2 : Sts := .op (some 13) (.mv (.t 7)) <|
 .op (some 14) (.bin .neq (.t 13) (.c (.int .i64 0))) <|
 .nil
def Q5_3 : Sts := .op (some 15) (.mv (.t 7)) <|
 .op (some 4) (.mv (.c (.slice none 0 0))) <|
 .op (some 5) (.mv (.t 15)) <|
 .nil
def Q5_4 : Sts := .op (some 16) (.mv (.t 6)) <|
 .op (some 17) (.loadA 4 (.t 3)) <|
 .op (some 18) (.call 66 [(.t 16), (.t 17)]) <|
 .op (some 19) (.bin .neq (.t 18) (.c (.int .i64 0))) <|
 .nil
def Q5_5 : Sts := .op (some 4) (.mv (.c (.slice none 0 0))) <|
 .op (some 5) (.mv (.c (.int .i64 1))) <|
 .nil
def Q5_6 : Sts := .op (some 20) (.mv (.t 6)) <|
 .op (some 21) (.loadA 4 (.t 3)) <|
 .op (some 22) (.call 35 [(.t 20), (.t 21)]) <|
 .op (some 4) (.mv (.t 22)) <|
 .op (some 5) (.mv (.c (.int .i64 0))) <|
 .nil
def Q5 : RFun := ⟨23, [0, 1, 2, 3, 4, 5, 6, 7], (.seq (.reg Q5_0) (.seq (.reg Q5_1) (.seq (.seq (.reg Q5_2) (.cond (.t 14) (.seq (.reg Q5_3) .ret) .skip)) (.seq (.seq (.reg Q5_4) (.cond (.t 19) (.seq (.reg Q5_5) .ret) .skip)) (.seq (.reg Q5_6) .ret))))), [.tmp 4, .tmp 5]⟩
theorem Q5_ok : compF Tryz.prog [0, 1, 2, 3, 4, 5, 6, 7] [15, 20, 31, 71, 88, 41, 76, 86, 65, 83, 81, 114, 117, 119, 122, 68, 100, 103, 104, 105, 137, 138, 64, 72, 96, 99, 158, 159, 132, 56, 93, 94, 130, 131, 155, 62, 23, 170] 26 = some Q5 := by kernel_rfl

/- lockless/litmus.Expand -/
def Q54_0 : Sts := .op (some 1) (.box 24 (.t 0)) <|
 .op (some 2) (.alloc 24 [(.slice none 0 0)]) <|
 .op (some 3) (.mv (.c (.int .i64 0))) <|
 .nil
def Q54_1 : Sts := .op (some 5) (.loadA 1 (.t 1)) <|
 .op (some 6) (.call 24 [(.t 5)]) <|
 .op (some 4) (.mv (.t 6)) <|
 .nil
def Q54_2 : Sts := .op (some 7) (.mv (.t 4)) <|
 .op (some 8) (.bin .neq (.t 7) (.c (.int .i64 0))) <|
 .nil
def Q54_3 : Sts := .op (some 9) (.build [(.slice none 0 0)] []) <|
 .op (some 10) (.mv (.t 4)) <|
 .op none (.store 1 (.t 2) (.t 9)) <|
 .op (some 3) (.mv (.t 10)) <|
 .nil
def Q54_4 : Sts := .op (some 11) (.loadA 1 (.t 1)) <|
 .op (some 12) (.call 69 [(.t 11), (.c (.func (.func 70) #[] #[]))]) <|
 .op none (.store 1 (.t 2) (.t 12)) <|
 .op (some 3) (.mv (.c (.int .i64 0))) <|
 .nil
def Q54 : RFun := ⟨13, [0, 1, 2, 3, 4], (.seq (.reg Q54_0) (.seq (.seq (.reg Q54_1) (.seq (.reg Q54_2) (.cond (.t 8) (.seq (.reg Q54_3) .ret) .skip))) (.seq (.reg Q54_4) .ret))), [.cellA 2 1, .tmp 3]⟩
theorem Q54_ok : compF Tryz.prog [0, 1, 2, 3, 4] [15, 20, 31, 71, 88, 41, 76, 86, 65, 83, 81, 114, 117, 119, 122, 68, 100, 103, 104, 105, 137, 138, 64, 72, 96, 99, 158, 159, 132, 56, 93, 94, 130, 131, 155, 62, 23, 170] 30 = some Q54 := by kernel_rfl

/- lockless/locklessref01.Less -/
def Q66_0 : Sts := .op (some 4) (.mv (.c (.bool false))) <|
 .nil
def Q66_1 : Sts := .op (some 5) (.mv (.c (.int .i64 0))) <|
 .nil
def Q66_2 : Sts := .op (some 6) (.mv (.t 5)) <|
 .op (some 7) (.mv (.t 0)) <|
 .op (some 8) (.len (.t 7)) <|
 .op (some 9) (.bin .lss (.t 6) (.t 8)) <|
 .op (some 10) (.mv (.t 9)) <|
 .cnd 10 true (
 .op (some 11) (.mv (.t 5)) <|
 .op (some 12) (.mv (.t 1)) <|
 .op (some 13) (.len (.t 12)) <|
 .op (some 14) (.bin .lss (.t 11) (.t 13)) <|
 .nil) 15 (.t 14) <|
 .nil
def Q66_3 : AT := .q (.op 0 (some 18) (.mv (.t 0)) <|
 .op 1 (some 19) (.mv (.t 5)) <|
 .op 2 (some 20) (.iaddrS 1 (.t 18) (.t 19)) <|
 .op 3 (some 21) (.loadI .i64 (.t 20)) <|
 .op 4 (some 22) (.mv (.t 1)) <|
 .op 5 (some 23) (.mv (.t 5)) <|
 .op 6 (some 24) (.iaddrS 1 (.t 22) (.t 23)) <|
 .op 7 (some 25) (.loadI .i64 (.t 24)) <|
 .op 8 (some 26) (.bin .neq (.t 21) (.t 25)) <|
 .nil) <|
 .fin
def Q66_4 : AT := .q (.op 0 (some 27) (.mv (.t 0)) <|
 .op 1 (some 28) (.mv (.t 5)) <|
 .op 2 (some 29) (.iaddrS 1 (.t 27) (.t 28)) <|
 .op 3 (some 30) (.loadI .i64 (.t 29)) <|
 .op 4 (some 31) (.mv (.t 1)) <|
 .op 5 (some 32) (.mv (.t 5)) <|
 .op 6 (some 33) (.iaddrS 1 (.t 31) (.t 32)) <|
 .op 7 (some 34) (.loadI .i64 (.t 33)) <|
 .op 8 (some 35) (.bin .lss (.t 30) (.t 34)) <|
 .op 9 (some 4) (.mv (.t 35)) <|
 .nil) <|
 .fin
def Q66_5 : Sts := .op (some 16) (.mv (.t 5)) <|
 .op (some 17) (.bin .add (.t 16) (.c (.int .i64 1))) <|
 .op (some 5) (.mv (.t 17)) <|
 .nil
def Q66_L6 : RCode := (.seq (.seq (.reg Q66_2) (.cond (.t 15) .skip (.exit 0))) (.seq (.block 1 (.seq (.any Q66_3) (.cond (.t 26) (.seq (.any Q66_4) .ret) .skip))) (.reg Q66_5)))
def Q66_6 : Sts := .op (some 36) (.mv (.t 0)) <|
 .op (some 37) (.len (.t 36)) <|
 .op (some 38) (.mv (.t 1)) <|
 .op (some 39) (.len (.t 38)) <|
 .op (some 40) (.bin .lss (.t 37) (.t 39)) <|
 .op (some 4) (.mv (.t 40)) <|
 .nil
def Q66 : RFun := ⟨41, [0, 1, 4, 5], (.seq (.reg Q66_0) (.seq (.seq (.reg Q66_1) (.block 0 (.loop Q66_L6))) (.seq (.reg Q66_6) .ret))), [.tmp 4]⟩
theorem Q66_ok : compF Tryz.prog [0, 1, 4, 5] [15, 20, 31, 71, 88, 41, 76, 86, 65, 83, 81, 114, 117, 119, 122, 68, 100, 103, 104, 105, 137, 138, 64, 72, 96, 99, 158, 159, 132, 56, 93, 94, 130, 131, 155, 62, 23, 170] 31 = some Q66 := by kernel_rfl

/- lockless/locklesslaw04.buffers -/
def Q64_0 : Sts := .op (some 0) (.alloc 24 [(.slice none 0 0)]) <|
 .nil
def Q64_1 : Sts := .op (some 1) (.build [(.int .i64 0), (.int .i64 0), (.int .i64 0), (.int .i64 0), (.int .i64 0)] [(0, 1, (.c (.int .i64 1))), (2, 1, (.c (.int .i64 1)))]) <|
 .op (some 2) (.build [(.int .i64 0), (.int .i64 0), (.int .i64 0), (.int .i64 0), (.int .i64 0)] [(1, 1, (.c (.int .i64 1)))]) <|
 .op (some 3) (.buildSl 83 2 [(.int .i64 0), (.int .i64 0), (.int .i64 0), (.int .i64 0), (.int .i64 0), (.int .i64 0), (.int .i64 0), (.int .i64 0), (.int .i64 0), (.int .i64 0)] [(0, 5, (.t 1)), (5, 5, (.t 2))]) <|
 .op (some 4) (.build [(.int .i64 0), (.int .i64 0), (.int .i64 0), (.int .i64 0), (.int .i64 0)] [(0, 1, (.c (.int .i64 1))), (1, 1, (.c (.int .i64 1))), (2, 1, (.c (.int .i64 1)))]) <|
 .op (some 5) (.build [(.int .i64 0), (.int .i64 0), (.int .i64 0), (.int .i64 0), (.int .i64 0)] []) <|
 .op (some 6) (.buildSl 83 2 [(.int .i64 0), (.int .i64 0), (.int .i64 0), (.int .i64 0), (.int .i64 0), (.int .i64 0), (.int .i64 0), (.int .i64 0), (.int .i64 0), (.int .i64 0)] [(0, 5, (.t 4)), (5, 5, (.t 5))]) <|
 .op (some 7) (.buildSl 70 2 [(.slice none 0 0), (.slice none 0 0)] [(0, 1, (.t 3)), (1, 1, (.t 6))]) <|
 .op (some 8) (.build [(.slice none 0 0)] [(0, 1, (.t 7))]) <|
 .op none (.store 1 (.t 0) (.t 8)) <|
 .nil
def Q64 : RFun := ⟨9, [0], (.seq (.reg Q64_0) (.seq (.reg Q64_1) .ret)), [.cellA 0 1]⟩
theorem Q64_ok : compF Tryz.prog [0] [15, 20, 31, 71, 88, 41, 76, 86, 65, 83, 81, 114, 117, 119, 122, 68, 100, 103, 104, 105, 137, 138, 64, 72, 96, 99, 158, 159, 132, 56, 93, 94, 130, 131, 155, 62, 23, 170] 32 = some Q64 := by kernel_rfl

/- lockless/axiom.of -/
def Q12_0 : Sts := .op (some 1) (.box 24 (.t 0)) <|
 .op (some 2) (.mv (.c (.slice none 0 0))) <|
 .op (some 3) (.mv (.c (.int .i64 0))) <|
 .nil
def Q12_1 : Sts := .op (some 12) (.loadA 1 (.t 1)) <|
 .op (some 13) (.call 30 [(.t 12)]) <|
 .op (some 11) (.mv (.t 13)) <|
 .op (some 14) (.extract 0 (.t 11)) <|
 .op (some 15) (.extract 1 (.t 11)) <|
 .op (some 4) (.alloc 24 [(.slice none 0 0)]) <|
 .op none (.store 1 (.t 4) (.t 14)) <|
 .op (some 5) (.mv (.t 15)) <|
 .nil
def Q12_2 : Sts := .op (some 16) (.mv (.t 5)) <|
 .op (some 17) (.bin .neq (.t 16) (.c (.int .i64 0))) <|
 .nil
def Q12_3 : Sts := .op (some 18) (.mv (.t 5)) <|
 .op (some 2) (.mv (.c (.slice none 0 0))) <|
 .op (some 3) (.mv (.t 18)) <|
 .nil
def Q12_4 : Sts := .op (some 6) (.mv (.c (.slice none 0 0))) <|
 .nil
def Q12_5 : Sts := .op (some 19) (.faddr 0 (.t 4)) <|
 .op (some 20) (.loadS (.t 19)) <|
 .op (some 21) (.len (.t 20)) <|
 .op (some 22) (.mv (.c (.int .i64 0))) <|
 .nil
def Q12_6 : Sts := .op (some 23) (.bin .lss (.t 22) (.t 21)) <|
 .nil
def Q12_7 : Sts := .op (some 24) (.mv (.t 22)) <|
 .op (some 25) (.iaddrS 1 (.t 20) (.t 22)) <|
 .op (some 26) (.loadS (.t 25)) <|
 .op (some 7) (.mv (.t 24)) <|
 .op (some 8) (.mv (.t 26)) <|
 .nil
def Q12_8 : Sts := .op (some 27) (.mv (.t 8)) <|
 .op (some 28) (.len (.t 27)) <|
 .op (some 29) (.mv (.c (.int .i64 0))) <|
 .nil
def Q12_9 : Sts := .op (some 30) (.bin .lss (.t 29) (.t 28)) <|
 .nil
def Q12_10 : Sts := .op (some 31) (.iaddrS 5 (.t 27) (.t 29)) <|
 .op (some 32) (.loadA 5 (.t 31)) <|
 .op (some 10) (.alloc 83 [(.int .i64 0), (.int .i64 0), (.int .i64 0), (.int .i64 0), (.int .i64 0)]) <|
 .op none (.store 5 (.t 10) (.t 32)) <|
 .nil
def Q12_11 : Sts := .op (some 33) (.mv (.t 6)) <|
 .op (some 34) (.loadA 5 (.t 10)) <|
 .op (some 35) (.mv (.t 7)) <|
 .op (some 36) (.build [(.int .i64 0), (.int .i64 0), (.int .i64 0), (.int .i64 0), (.int .i64 0), (.int .i64 0)] [(0, 5, (.t 34)), (5, 1, (.t 35))]) <|
 .op (some 37) (.buildSl 121 1 [(.int .i64 0), (.int .i64 0), (.int .i64 0), (.int .i64 0), (.int .i64 0), (.int .i64 0)] [(0, 6, (.t 36))]) <|
 .op (some 38) (.append 121 6 48 [(.int .i64 0), (.int .i64 0), (.int .i64 0), (.int .i64 0), (.int .i64 0), (.int .i64 0)] (.t 33) (.t 37)) <|
 .op (some 6) (.mv (.t 38)) <|
 .nil
def Q12_12 : Sts := .op (some 39) (.bin .add (.t 29) (.c (.int .i64 1))) <|
 .op (some 29) (.mv (.t 39)) <|
 .nil
def Q12_L13 : RCode := (.seq (.reg Q12_9) (.seq (.cond (.t 30) .skip (.exit 2)) (.seq (.block 3 (.seq (.reg Q12_10) (.reg Q12_11))) (.reg Q12_12))))
def Q12_13 : Sts := .op (some 40) (.bin .add (.t 22) (.c (.int .i64 1))) <|
 .op (some 22) (.mv (.t 40)) <|
 .nil
def Q12_L14 : RCode := (.seq (.reg Q12_6) (.seq (.cond (.t 23) .skip (.exit 0)) (.seq (.block 1 (.seq (.reg Q12_7) (.seq (.reg Q12_8) (.block 2 (.loop Q12_L13))))) (.reg Q12_13))))
def Q12_14 : Sts := .op (some 41) (.mv (.t 6)) <|
 .op (some 2) (.mv (.t 41)) <|
 .op (some 3) (.mv (.c (.int .i64 0))) <|
 .nil
def Q12 : RFun := ⟨42, [0, 1, 2, 3, 4, 5, 6, 7, 8, 10, 20, 21, 22, 27, 28, 29], (.seq (.reg Q12_0) (.seq (.reg Q12_1) (.seq (.seq (.reg Q12_2) (.cond (.t 17) (.seq (.reg Q12_3) .ret) .skip)) (.seq (.reg Q12_4) (.seq (.seq (.reg Q12_5) (.block 0 (.loop Q12_L14))) (.seq (.reg Q12_14) .ret)))))), [.tmp 2, .tmp 3]⟩
theorem Q12_ok : compF Tryz.prog [0, 1, 2, 3, 4, 5, 6, 7, 8, 10, 20, 21, 22, 27, 28, 29] [15, 20, 31, 71, 88, 41, 76, 86, 65, 83, 81, 114, 117, 119, 122, 68, 100, 103, 104, 105, 137, 138, 64, 72, 96, 99, 158, 159, 132, 56, 93, 94, 130, 131, 155, 62, 23, 170] 33 = some Q12 := by kernel_rfl

/- (lockless/axiom.program).executions -/
def Q21_0 : Sts := .op (some 1) (.box 74 (.t 0)) <|
 .op (some 2) (.mv (.c .nilFunc)) <|
 .nil
def Q21_1 : Sts := .op (some 4) (.loadS (.t 1)) <|
 .op (some 5) (.mkfn 75 [] [(.t 1)]) <|
 .op (some 6) (.call 74 [(.t 4), (.t 5)]) <|
 .op (some 3) (.alloc 34 [(.slice none 0 0)]) <|
 .op none (.store 1 (.t 3) (.t 6)) <|
 .nil
def Q21_2 : Sts := .op (some 7) (.mkfn 77 [] [(.t 1), (.t 3)]) <|
 .op (some 2) (.mv (.t 7)) <|
 .nil
def Q21 : RFun := ⟨8, [0, 1, 2, 3], (.seq (.reg Q21_0) (.seq (.reg Q21_1) (.seq (.reg Q21_2) .ret))), [.tmp 2]⟩
theorem Q21_ok : compF Tryz.prog [0, 1, 2, 3] [15, 20, 31, 71, 88, 41, 76, 86, 65, 83, 81, 114, 117, 119, 122, 68, 100, 103, 104, 105, 137, 138, 64, 72, 96, 99, 158, 159, 132, 56, 93, 94, 130, 131, 155, 62, 23, 170] 34 = some Q21 := by kernel_rfl

/- (lockless/axiom.program).outcome -/
def Q36_0 : Sts := .op (some 3) (.box 45 (.t 1)) <|
 .op (some 4) (.mv (.c (.slice none 0 0))) <|
 .nil
def Q36_1 : Sts := .op (some 15) (.mv (.t 0)) <|
 .op (some 16) (.loadA 4 (.t 3)) <|
 .op (some 17) (.call 85 [(.t 15), (.t 16)]) <|
 .op (some 14) (.mv (.t 17)) <|
 .op (some 18) (.extract 0 (.t 14)) <|
 .op (some 19) (.extract 1 (.t 14)) <|
 .op (some 20) (.extract 2 (.t 14)) <|
 .op (some 5) (.mv (.t 18)) <|
 .op (some 6) (.mv (.t 19)) <|
 .op (some 7) (.mv (.t 20)) <|
 .nil
def Q36_2 : Sts := .op (some 8) (.mv (.c (.slice none 0 0))) <|
 .nil
def Q36_3 : Sts := .op (some 21) (.mv (.t 0)) <|
 .op (some 22) (.len (.t 21)) <|
 .op (some 23) (.mv (.c (.int .i64 0))) <|
 .nil
def Q36_4 : Sts := .op (some 24) (.bin .lss (.t 23) (.t 22)) <|
 .nil
def Q36_5 : Sts := .op (some 25) (.mv (.t 23)) <|
 .op (some 26) (.iaddrS 6 (.t 21) (.t 23)) <|
 .op (some 27) (.loadA 6 (.t 26)) <|
 .op (some 10) (.alloc 121 [(.int .i64 0), (.int .i64 0), (.int .i64 0), (.int .i64 0), (.int .i64 0), (.int .i64 0)]) <|
 .op (some 9) (.mv (.t 25)) <|
 .op none (.store 6 (.t 10) (.t 27)) <|
 .nil
def Q36_6 : Sts := .op (some 28) (.loadA 6 (.t 10)) <|
 .op (some 29) (.call 86 [(.t 28)]) <|
 .nil
def Q36_7 : Sts := .op (some 30) (.mv (.t 8)) <|
 .op (some 31) (.mv (.t 5)) <|
 .op (some 32) (.mv (.t 9)) <|
 .op (some 33) (.iaddrS 1 (.t 31) (.t 32)) <|
 .op (some 34) (.loadI .i64 (.t 33)) <|
 .op (some 35) (.buildSl 3 1 [(.int .i64 0)] [(0, 1, (.t 34))]) <|
 .op (some 36) (.append 3 1 8 [(.int .i64 0)] (.t 30) (.t 35)) <|
 .op (some 8) (.mv (.t 36)) <|
 .nil
def Q36_8 : Sts := .op (some 37) (.bin .add (.t 23) (.c (.int .i64 1))) <|
 .op (some 23) (.mv (.t 37)) <|
 .nil
def Q36_L9 : RCode := (.seq (.reg Q36_4) (.seq (.cond (.t 24) .skip (.exit 0)) (.seq (.block 1 (.seq (.reg Q36_5) (.seq (.reg Q36_6) (.cond (.t 29) (.reg Q36_7) .skip)))) (.reg Q36_8))))
def Q36_9 : Sts := .op (some 38) (.faddr 2 (.t 3)) <|
 .op (some 39) (.loadS (.t 38)) <|
 .op (some 40) (.len (.t 39)) <|
 .op (some 41) (.mv (.c (.int .i64 0))) <|
 .nil
def Q36_10 : Sts := .op (some 42) (.bin .lss (.t 41) (.t 40)) <|
 .nil
def Q36_11 : Sts := .op (some 43) (.iaddrS 1 (.t 39) (.t 41)) <|
 .op (some 44) (.loadS (.t 43)) <|
 .op (some 12) (.mv (.t 44)) <|
 .nil
def Q36_12 : Sts := .op (some 13) (.mv (.c (.int .i64 0))) <|
 .nil
def Q36_13 : Sts := .op (some 45) (.mv (.t 12)) <|
 .op (some 46) (.len (.t 45)) <|
 .op (some 47) (.bin .gtr (.t 46) (.c (.int .i64 0))) <|
 .nil
def Q36_14 : Sts := .op (some 48) (.mv (.t 6)) <|
 .op (some 49) (.mv (.t 12)) <|
 .op (some 50) (.mv (.t 12)) <|
 .op (some 51) (.len (.t 50)) <|
 .op (some 52) (.bin .sub (.t 51) (.c (.int .i64 1))) <|
 .op (some 53) (.iaddrS 1 (.t 49) (.t 52)) <|
 .op (some 54) (.loadI .i64 (.t 53)) <|
 .op (some 55) (.iaddrS 1 (.t 48) (.t 54)) <|
 .op (some 56) (.loadI .i64 (.t 55)) <|
 .op (some 13) (.mv (.t 56)) <|
 .nil
def Q36_15 : Sts := .op (some 57) (.mv (.t 8)) <|
 .op (some 58) (.mv (.t 13)) <|
 .op (some 59) (.buildSl 3 1 [(.int .i64 0)] [(0, 1, (.t 58))]) <|
 .op (some 60) (.append 3 1 8 [(.int .i64 0)] (.t 57) (.t 59)) <|
 .op (some 8) (.mv (.t 60)) <|
 .nil
def Q36_16 : Sts := .op (some 61) (.bin .add (.t 41) (.c (.int .i64 1))) <|
 .op (some 41) (.mv (.t 61)) <|
 .nil
def Q36_L17 : RCode := (.seq (.reg Q36_10) (.seq (.cond (.t 42) .skip (.exit 2)) (.seq (.block 3 (.seq (.reg Q36_11) (.seq (.reg Q36_12) (.seq (.seq (.reg Q36_13) (.cond (.t 47) (.reg Q36_14) .skip)) (.reg Q36_15))))) (.reg Q36_16))))
def Q36_17 : Sts := .op (some 62) (.mv (.t 8)) <|
 .op (some 4) (.mv (.t 62)) <|
 .nil
def Q36 : RFun := ⟨63, [0, 1, 3, 4, 5, 6, 8, 9, 10, 12, 13, 21, 22, 23, 39, 40, 41], (.seq (.reg Q36_0) (.seq (.reg Q36_1) (.seq (.reg Q36_2) (.seq (.seq (.reg Q36_3) (.block 0 (.loop Q36_L9))) (.seq (.seq (.reg Q36_9) (.block 2 (.loop Q36_L17))) (.seq (.reg Q36_17) .ret)))))), [.tmp 4]⟩
theorem Q36_ok : compF Tryz.prog [0, 1, 3, 4, 5, 6, 8, 9, 10, 12, 13, 21, 22, 23, 39, 40, 41] [15, 20, 31, 71, 88, 41, 76, 86, 65, 83, 81, 114, 117, 119, 122, 68, 100, 103, 104, 105, 137, 138, 64, 72, 96, 99, 158, 159, 132, 56, 93, 94, 130, 131, 155, 62, 23, 170] 35 = some Q36 := by kernel_rfl

/- lockless/axiom.distinct -/
def Q7_0 : Sts := .op (some 2) (.mv (.c (.slice none 0 0))) <|
 .nil
def Q7_1 : Sts := .op (some 3) (.mv (.t 0)) <|
 .op (some 4) (.call 87 [(.t 3), (.c (.func (.func 88) #[] #[]))]) <|
 .nil
def Q7_2 : Sts := .op (some 5) (.mv (.t 0)) <|
 .op (some 6) (.call 89 [(.t 5), (.c (.func (.func 41) #[] #[]))]) <|
 .op (some 2) (.mv (.t 6)) <|
 .nil
def Q7 : RFun := ⟨7, [0, 2], (.seq (.reg Q7_0) (.seq (.reg Q7_1) (.seq (.reg Q7_2) .ret))), [.tmp 2]⟩
theorem Q7_ok : compF Tryz.prog [0, 2] [15, 20, 31, 71, 88, 41, 76, 86, 65, 83, 81, 114, 117, 119, 122, 68, 100, 103, 104, 105, 137, 138, 64, 72, 96, 99, 158, 159, 132, 56, 93, 94, 130, 131, 155, 62, 23, 170] 36 = some Q7 := by kernel_rfl

/- slices.Equal[[]int,int] -/
def Q83_0 : Sts := .op (some 4) (.mv (.c (.bool false))) <|
 .nil
def Q83_1 : Sts := .op (some 6) (.mv (.t 0)) <|
 .op (some 7) (.len (.t 6)) <|
 .op (some 8) (.mv (.t 1)) <|
 .op (some 9) (.len (.t 8)) <|
 .op (some 10) (.bin .neq (.t 7) (.t 9)) <|
 .nil
def Q83_2 : Sts := .op (some 4) (.mv (.c (.bool false))) <|
 .nil
def Q83_3 : Sts := .op (some 11) (.mv (.t 0)) <|
 .op (some 12) (.len (.t 11)) <|
 .op (some 13) (.mv (.c (.int .i64 0))) <|
 .nil
def Q83_4 : Sts := .op (some 14) (.bin .lss (.t 13) (.t 12)) <|
 .nil
def Q83_5 : Sts := .op (some 15) (.mv (.t 13)) <|
 .op (some 5) (.mv (.t 15)) <|
 .nil
def Q83_6 : AT := .q (.op 0 (some 16) (.mv (.t 0)) <|
 .op 1 (some 17) (.mv (.t 5)) <|
 .op 2 (some 18) (.iaddrS 1 (.t 16) (.t 17)) <|
 .op 3 (some 19) (.loadI .i64 (.t 18)) <|
 .op 4 (some 20) (.mv (.t 1)) <|
 .op 5 (some 21) (.mv (.t 5)) <|
 .op 6 (some 22) (.iaddrS 1 (.t 20) (.t 21)) <|
 .op 7 (some 23) (.loadI .i64 (.t 22)) <|
 .op 8 (some 24) (.bin .neq (.t 19) (.t 23)) <|
 .nil) <|
 .fin
def Q83_7 : Sts := .op (some 4) (.mv (.c (.bool false))) <|
 .nil
def Q83_8 : Sts := .op (some 25) (.bin .add (.t 13) (.c (.int .i64 1))) <|
 .op (some 13) (.mv (.t 25)) <|
 .nil
def Q83_L9 : RCode := (.seq (.reg Q83_4) (.seq (.cond (.t 14) .skip (.exit 0)) (.seq (.block 1 (.seq (.reg Q83_5) (.seq (.any Q83_6) (.cond (.t 24) (.seq (.reg Q83_7) .ret) .skip)))) (.reg Q83_8))))
def Q83_9 : Sts := .op (some 4) (.mv (.c (.bool true))) <|
 .nil
def Q83 : RFun := ⟨26, [0, 1, 4, 5, 12, 13], (.seq (.reg Q83_0) (.seq (.seq (.reg Q83_1) (.cond (.t 10) (.seq (.reg Q83_2) .ret) .skip)) (.seq (.seq (.reg Q83_3) (.block 0 (.loop Q83_L9))) (.seq (.reg Q83_9) .ret)))), [.tmp 4]⟩
theorem Q83_ok : compF Tryz.prog [0, 1, 4, 5, 12, 13] [15, 20, 31, 71, 88, 41, 76, 86, 65, 83, 81, 114, 117, 119, 122, 68, 100, 103, 104, 105, 137, 138, 64, 72, 96, 99, 158, 159, 132, 56, 93, 94, 130, 131, 155, 62, 23, 170] 41 = some Q83 := by kernel_rfl

/- lockless/litmus.limits -/
def Q59_0 : Sts := .op (some 1) (.box 24 (.t 0)) <|
 .op (some 2) (.mv (.c (.bool false))) <|
 .nil
def Q59_1 : Sts := .op (some 10) (.faddr 0 (.t 1)) <|
 .op (some 11) (.loadS (.t 10)) <|
 .op (some 12) (.len (.t 11)) <|
 .op (some 13) (.bin .gtr (.t 12) (.c (.int .i64 3))) <|
 .nil
def Q59_2 : Sts := .op (some 2) (.mv (.c (.bool false))) <|
 .nil
def Q59_3 : Sts := .op (some 3) (.mv (.c (.int .i64 0))) <|
 .op (some 4) (.mv (.c (.int .i64 0))) <|
 .nil
def Q59_4 : Sts := .op (some 5) (.alloc 142 [(.int .i64 0), (.int .i64 0), (.int .i64 0)]) <|
 .nil
def Q59_5 : Sts := .op (some 14) (.faddr 0 (.t 1)) <|
 .op (some 15) (.loadS (.t 14)) <|
 .op (some 16) (.len (.t 15)) <|
 .op (some 17) (.mv (.c (.int .i64 0))) <|
 .nil
def Q59_6 : Sts := .op (some 18) (.bin .lss (.t 17) (.t 16)) <|
 .nil
def Q59_7 : Sts := .op (some 19) (.iaddrS 1 (.t 15) (.t 17)) <|
 .op (some 20) (.loadS (.t 19)) <|
 .op (some 7) (.mv (.t 20)) <|
 .nil
def Q59_8 : Sts := .op (some 21) (.mv (.t 7)) <|
 .op (some 22) (.len (.t 21)) <|
 .op (some 23) (.mv (.c (.int .i64 0))) <|
 .nil
def Q59_9 : Sts := .op (some 24) (.bin .lss (.t 23) (.t 22)) <|
 .nil
def Q59_10 : Sts := .op (some 25) (.iaddrS 5 (.t 21) (.t 23)) <|
 .op (some 26) (.loadA 5 (.t 25)) <|
 .op (some 9) (.alloc 83 [(.int .i64 0), (.int .i64 0), (.int .i64 0), (.int .i64 0), (.int .i64 0)]) <|
 .op none (.store 5 (.t 9) (.t 26)) <|
 .nil
def Q59_11 : Sts := .op (some 28) (.faddr 0 (.t 9)) <|
 .op (some 29) (.loadI .i64 (.t 28)) <|
 .op (some 30) (.bin .eql (.t 29) (.c (.int .i64 5))) <|
 .op (some 27) (.mv (.t 30)) <|
 .nil
def Q59_12 : Sts := .op (some 31) (.mv (.t 4)) <|
 .op (some 32) (.bin .add (.t 31) (.c (.int .i64 1))) <|
 .op (some 4) (.mv (.t 32)) <|
 .nil
def Q59_13 : Sts := .op (some 34) (.loadA 5 (.t 9)) <|
 .op (some 35) (.call 71 [(.t 34)]) <|
 .op (some 33) (.mv (.t 35)) <|
 .nil
def Q59_14 : Sts := .op (some 36) (.mv (.t 3)) <|
 .op (some 37) (.bin .add (.t 36) (.c (.int .i64 1))) <|
 .op (some 3) (.mv (.t 37)) <|
 .nil
def Q59_15 : Sts := .op (some 38) (.faddr 4 (.t 9)) <|
 .op (some 39) (.loadI .i64 (.t 38)) <|
 .op (some 40) (.bin .eql (.t 39) (.c (.int .i64 4))) <|
 .nil
def Q59_16 : Sts := .op (some 41) (.mv (.t 4)) <|
 .op (some 42) (.bin .add (.t 41) (.c (.int .i64 2))) <|
 .op (some 4) (.mv (.t 42)) <|
 .nil
def Q59_17 : Sts := .op (some 43) (.faddr 0 (.t 9)) <|
 .op (some 44) (.loadI .i64 (.t 43)) <|
 .op (some 45) (.bin .neq (.t 44) (.c (.int .i64 0))) <|
 .op (some 46) (.mv (.t 45)) <|
 .cnd 46 true (
 .op (some 47) (.faddr 1 (.t 9)) <|
 .op (some 48) (.loadI .i64 (.t 47)) <|
 .op (some 49) (.bin .geq (.t 48) (.c (.int .i64 0))) <|
 .nil) 50 (.t 49) <|
 .op (some 51) (.mv (.t 50)) <|
 .cnd 51 true (
 .op (some 52) (.faddr 1 (.t 9)) <|
 .op (some 53) (.loadI .i64 (.t 52)) <|
 .op (some 54) (.bin .lss (.t 53) (.c (.int .i64 3))) <|
 .nil) 55 (.t 54) <|
 .nil
def Q59_18 : Sts := .op (some 56) (.faddr 1 (.t 9)) <|
 .op (some 57) (.loadI .i64 (.t 56)) <|
 .op (some 58) (.iaddrA 3 1 (.t 5) (.t 57)) <|
 .op (some 59) (.loadI .i64 (.t 58)) <|
 .op (some 60) (.bin .add (.t 59) (.c (.int .i64 1))) <|
 .op (some 61) (.iaddrA 3 1 (.t 5) (.t 57)) <|
 .op none (.store 1 (.t 61) (.t 60)) <|
 .nil
def Q59_19 : Sts := .op (some 62) (.bin .add (.t 23) (.c (.int .i64 1))) <|
 .op (some 23) (.mv (.t 62)) <|
 .nil
def Q59_L20 : RCode := (.seq (.reg Q59_9) (.seq (.cond (.t 24) .skip (.exit 2)) (.seq (.block 3 (.seq (.reg Q59_10) (.block 4 (.seq (.reg Q59_11) (.cond (.t 27) (.reg Q59_12) (.seq (.reg Q59_13) (.cond (.t 33) (.seq (.reg Q59_14) (.seq (.seq (.reg Q59_15) (.cond (.t 40) (.reg Q59_16) .skip)) (.seq (.reg Q59_17) (.cond (.t 55) (.reg Q59_18) .skip)))) .skip))))))) (.reg Q59_19))))
def Q59_20 : Sts := .op (some 63) (.bin .add (.t 17) (.c (.int .i64 1))) <|
 .op (some 17) (.mv (.t 63)) <|
 .nil
def Q59_L21 : RCode := (.seq (.reg Q59_6) (.seq (.cond (.t 18) .skip (.exit 0)) (.seq (.block 1 (.seq (.reg Q59_7) (.seq (.reg Q59_8) (.block 2 (.loop Q59_L20))))) (.reg Q59_20))))
def Q59_21 : Sts := .op (some 64) (.mv (.t 3)) <|
 .op (some 65) (.bin .leq (.t 64) (.c (.int .i64 6))) <|
 .op (some 66) (.mv (.t 65)) <|
 .cnd 66 true (
 .op (some 67) (.mv (.t 4)) <|
 .op (some 68) (.bin .leq (.t 67) (.c (.int .i64 8))) <|
 .nil) 69 (.t 68) <|
 .op (some 70) (.mv (.t 69)) <|
 .cnd 70 true (
 .op (some 71) (.slA 3 1 (.t 5) none none) <|
 .op (some 72) (.call 98 [(.t 71)]) <|
 .op (some 73) (.bin .leq (.t 72) (.c (.int .i64 4))) <|
 .nil) 74 (.t 73) <|
 .op (some 2) (.mv (.t 74)) <|
 .nil
def Q59 : RFun := ⟨75, [0, 1, 2, 3, 4, 5, 7, 9, 15, 16, 17, 21, 22, 23], (.seq (.reg Q59_0) (.seq (.seq (.reg Q59_1) (.cond (.t 13) (.seq (.reg Q59_2) .ret) .skip)) (.seq (.reg Q59_3) (.seq (.reg Q59_4) (.seq (.seq (.reg Q59_5) (.block 0 (.loop Q59_L21))) (.seq (.reg Q59_21) .ret)))))), [.tmp 2]⟩
theorem Q59_ok : compF Tryz.prog [0, 1, 2, 3, 4, 5, 7, 9, 15, 16, 17, 21, 22, 23] [15, 20, 31, 71, 88, 41, 76, 86, 65, 83, 81, 114, 117, 119, 122, 68, 100, 103, 104, 105, 137, 138, 64, 72, 96, 99, 158, 159, 132, 56, 93, 94, 130, 131, 155, 62, 23, 170] 63 = some Q59 := by kernel_rfl

/- lockless/order.May -/
def Q68_0 : Sts := .op (some 4) (.mv (.c (.bool false))) <|
 .op (some 5) (.mv (.c (.int .i64 0))) <|
 .nil
def Q68_1 : Sts := .op (some 6) (.mv (.t 0)) <|
 .op (some 7) (.bin .lss (.t 6) (.c (.int .i64 0))) <|
 .op (some 8) (.mv (.t 7)) <|
 .cnd 8 false (
 .op (some 9) (.mv (.t 0)) <|
 .op (some 10) (.bin .geq (.t 9) (.c (.int .i64 6))) <|
 .nil) 11 (.t 10) <|
 .op (some 12) (.mv (.t 11)) <|
 .cnd 12 false (
 .op (some 13) (.mv (.t 1)) <|
 .op (some 14) (.call 96 [(.t 13)]) <|
 .op (some 15) (.notb (.t 14)) <|
 .nil) 16 (.t 15) <|
 .nil
def Q68_2 : Sts := .op (some 4) (.mv (.c (.bool false))) <|
 .op (some 5) (.mv (.c (.int .i64 1))) <|
 .nil
def Q68_3 : Sts := .op (some 17) (.mv (.t 0)) <|
 .op (some 18) (.mv (.t 1)) <|
 .op (some 19) (.call 99 [(.t 17), (.t 18)]) <|
 .op (some 4) (.mv (.t 19)) <|
 .op (some 5) (.mv (.c (.int .i64 0))) <|
 .nil
def Q68 : RFun := ⟨20, [0, 1, 4, 5], (.seq (.reg Q68_0) (.seq (.seq (.reg Q68_1) (.cond (.t 16) (.seq (.reg Q68_2) .ret) .skip)) (.seq (.reg Q68_3) .ret))), [.tmp 4, .tmp 5]⟩
theorem Q68_ok : compF Tryz.prog [0, 1, 4, 5] [15, 20, 31, 71, 88, 41, 76, 86, 65, 83, 81, 114, 117, 119, 122, 68, 100, 103, 104, 105, 137, 138, 64, 72, 96, 99, 158, 159, 132, 56, 93, 94, 130, 131, 155, 62, 23, 170] 64 = some Q68 := by kernel_rfl

/- lockless/litmus.fits -/
def Q58_0 : Sts := .op (some 1) (.box 83 (.t 0)) <|
 .op (some 2) (.mv (.c (.bool false))) <|
 .nil
def Q58_1 : Sts := .op (some 3) (.faddr 1 (.t 1)) <|
 .op (some 4) (.loadI .i64 (.t 3)) <|
 .op (some 5) (.bin .lss (.t 4) (.c (.int .i64 0))) <|
 .op (some 6) (.mv (.t 5)) <|
 .cnd 6 false (
 .op (some 7) (.faddr 1 (.t 1)) <|
 .op (some 8) (.loadI .i64 (.t 7)) <|
 .op (some 9) (.bin .geq (.t 8) (.c (.int .i64 3))) <|
 .nil) 10 (.t 9) <|
 .nil
def Q58_2 : Sts := .op (some 2) (.mv (.c (.bool false))) <|
 .nil
def Q58_3 : Sts := .op (some 11) (.faddr 0 (.t 1)) <|
 .op (some 12) (.loadI .i64 (.t 11)) <|
 .nil
def Q58_4 : Sts := .op (some 14) (.bin .eql (.t 12) (.c (.int .i64 0))) <|
 .op (some 13) (.mv (.t 14)) <|
 .nil
def Q58_5 : Sts := .op (some 15) (.faddr 2 (.t 1)) <|
 .op (some 16) (.loadI .i64 (.t 15)) <|
 .op (some 17) (.bin .eql (.t 16) (.c (.int .i64 0))) <|
 .op (some 18) (.mv (.t 17)) <|
 .cnd 18 true (
 .op (some 19) (.faddr 3 (.t 1)) <|
 .op (some 20) (.loadI .i64 (.t 19)) <|
 .op (some 21) (.bin .eql (.t 20) (.c (.int .i64 0))) <|
 .nil) 22 (.t 21) <|
 .op (some 2) (.mv (.t 22)) <|
 .nil
def Q58_6 : Sts := .op (some 24) (.bin .eql (.t 12) (.c (.int .i64 1))) <|
 .op (some 23) (.mv (.t 24)) <|
 .nil
def Q58_7 : Sts := .op (some 25) (.faddr 2 (.t 1)) <|
 .op (some 26) (.loadI .i64 (.t 25)) <|
 .op (some 27) (.call 100 [(.t 26)]) <|
 .op (some 28) (.mv (.t 27)) <|
 .cnd 28 true (
 .op (some 29) (.faddr 3 (.t 1)) <|
 .op (some 30) (.loadI .i64 (.t 29)) <|
 .op (some 31) (.bin .eql (.t 30) (.c (.int .i64 0))) <|
 .nil) 32 (.t 31) <|
 .op (some 2) (.mv (.t 32)) <|
 .nil
def Q58_8 : Sts := .op (some 34) (.bin .eql (.t 12) (.c (.int .i64 2))) <|
 .op (some 33) (.mv (.t 34)) <|
 .nil
def Q58_9 : Sts := .op (some 35) (.faddr 2 (.t 1)) <|
 .op (some 36) (.loadI .i64 (.t 35)) <|
 .op (some 37) (.bin .geq (.t 36) (.c (.int .i64 (-9)))) <|
 .op (some 38) (.mv (.t 37)) <|
 .cnd 38 true (
 .op (some 39) (.faddr 2 (.t 1)) <|
 .op (some 40) (.loadI .i64 (.t 39)) <|
 .op (some 41) (.bin .leq (.t 40) (.c (.int .i64 9))) <|
 .nil) 42 (.t 41) <|
 .op (some 43) (.mv (.t 42)) <|
 .cnd 43 true (
 .op (some 44) (.faddr 3 (.t 1)) <|
 .op (some 45) (.loadI .i64 (.t 44)) <|
 .op (some 46) (.bin .eql (.t 45) (.c (.int .i64 0))) <|
 .nil) 47 (.t 46) <|
 .op (some 2) (.mv (.t 47)) <|
 .nil
def Q58_10 : Sts := .op (some 49) (.bin .eql (.t 12) (.c (.int .i64 3))) <|
 .op (some 48) (.mv (.t 49)) <|
 .nil
def Q58_11 : Sts := .op (some 50) (.bin .eql (.t 12) (.c (.int .i64 4))) <|
 .op (some 48) (.mv (.t 50)) <|
 .nil
def Q58_12 : Sts := .op (some 51) (.faddr 2 (.t 1)) <|
 .op (some 52) (.loadI .i64 (.t 51)) <|
 .op (some 53) (.call 100 [(.t 52)]) <|
 .op (some 54) (.mv (.t 53)) <|
 .cnd 54 true (
 .op (some 55) (.faddr 3 (.t 1)) <|
 .op (some 56) (.loadI .i64 (.t 55)) <|
 .op (some 57) (.call 100 [(.t 56)]) <|
 .nil) 58 (.t 57) <|
 .op (some 2) (.mv (.t 58)) <|
 .nil
def Q58_13 : Sts := .op (some 60) (.bin .eql (.t 12) (.c (.int .i64 5))) <|
 .op (some 59) (.mv (.t 60)) <|
 .nil
def Q58_14 : Sts := .op (some 61) (.faddr 1 (.t 1)) <|
 .op (some 62) (.loadI .i64 (.t 61)) <|
 .op (some 63) (.bin .eql (.t 62) (.c (.int .i64 0))) <|
 .op (some 64) (.mv (.t 63)) <|
 .cnd 64 true (
 .op (some 65) (.faddr 2 (.t 1)) <|
 .op (some 66) (.loadI .i64 (.t 65)) <|
 .op (some 67) (.bin .eql (.t 66) (.c (.int .i64 0))) <|
 .nil) 68 (.t 67) <|
 .op (some 69) (.mv (.t 68)) <|
 .cnd 69 true (
 .op (some 70) (.faddr 3 (.t 1)) <|
 .op (some 71) (.loadI .i64 (.t 70)) <|
 .op (some 72) (.bin .eql (.t 71) (.c (.int .i64 0))) <|
 .nil) 73 (.t 72) <|
 .op (some 2) (.mv (.t 73)) <|
 .nil
def Q58_15 : Sts := .op (some 2) (.mv (.c (.bool false))) <|
 .nil
def Q58 : RFun := ⟨74, [0, 1, 2, 12], (.seq (.reg Q58_0) (.seq (.seq (.reg Q58_1) (.cond (.t 10) (.seq (.reg Q58_2) .ret) .skip)) (.seq (.seq (.reg Q58_3) (.block 0 (.seq (.reg Q58_4) (.cond (.t 13) (.seq (.reg Q58_5) .ret) (.seq (.reg Q58_6) (.cond (.t 23) (.seq (.reg Q58_7) .ret) (.seq (.reg Q58_8) (.cond (.t 33) (.seq (.reg Q58_9) .ret) (.seq (.seq (.reg Q58_10) (.cond (.t 48) .skip (.reg Q58_11))) (.cond (.t 48) (.seq (.reg Q58_12) .ret) (.seq (.reg Q58_13) (.cond (.t 59) (.seq (.reg Q58_14) .ret) .skip)))))))))))) (.seq (.reg Q58_15) .ret)))), [.tmp 2]⟩
theorem Q58_ok : compF Tryz.prog [0, 1, 2, 12] [15, 20, 31, 71, 88, 41, 76, 86, 65, 83, 81, 114, 117, 119, 122, 68, 100, 103, 104, 105, 137, 138, 64, 72, 96, 99, 158, 159, 132, 56, 93, 94, 130, 131, 155, 62, 23, 170] 65 = some Q58 := by kernel_rfl

/- (lockless/axiom.program).fails -/
def Q24_0 : Sts := .op (some 3) (.box 45 (.t 1)) <|
 .op (some 4) (.mv (.c (.int .i64 0))) <|
 .nil
def Q24_1 : Sts := .op (some 5) (.mv (.t 0)) <|
 .op (some 6) (.loadA 4 (.t 3)) <|
 .op (some 7) (.call 101 [(.t 5), (.t 6)]) <|
 .op (some 8) (.notb (.t 7)) <|
 .nil
def Q24_2 : Sts := .op (some 4) (.mv (.c (.int .i64 1))) <|
 .nil
def Q24_3 : Sts := .op (some 9) (.mv (.t 0)) <|
 .op (some 10) (.loadA 4 (.t 3)) <|
 .op (some 11) (.call 83 [(.t 9), (.t 10)]) <|
 .op (some 4) (.mv (.t 11)) <|
 .nil
def Q24 : RFun := ⟨12, [0, 1, 3, 4], (.seq (.reg Q24_0) (.seq (.seq (.reg Q24_1) (.cond (.t 8) (.seq (.reg Q24_2) .ret) .skip)) (.seq (.reg Q24_3) .ret))), [.tmp 4]⟩
theorem Q24_ok : compF Tryz.prog [0, 1, 3, 4] [15, 20, 31, 71, 88, 41, 76, 86, 65, 83, 81, 114, 117, 119, 122, 68, 100, 103, 104, 105, 137, 138, 64, 72, 96, 99, 158, 159, 132, 56, 93, 94, 130, 131, 155, 62, 23, 170] 66 = some Q24 := by kernel_rfl

/- (lockless/axiom.program).before -/
def Q13_0 : Sts := .op (some 3) (.box 45 (.t 1)) <|
 .op (some 4) (.mv (.c (.slice none 0 0))) <|
 .nil
def Q13_1 : Sts := .op (some 11) (.mv (.t 0)) <|
 .op (some 12) (.loadA 4 (.t 3)) <|
 .op (some 13) (.call 102 [(.t 11), (.t 12)]) <|
 .op (some 5) (.mv (.t 13)) <|
 .nil
def Q13_2 : Sts := .op (some 14) (.mv (.t 0)) <|
 .op (some 15) (.len (.t 14)) <|
 .op (some 16) (.mv (.c (.int .i64 0))) <|
 .nil
def Q13_3 : Sts := .op (some 17) (.bin .lss (.t 16) (.t 15)) <|
 .nil
def Q13_4 : Sts := .op (some 18) (.mv (.t 16)) <|
 .op (some 6) (.mv (.t 18)) <|
 .nil
def Q13_5 : Sts := .op (some 19) (.mv (.t 0)) <|
 .op (some 20) (.mv (.t 6)) <|
 .op (some 21) (.iaddrS 6 (.t 19) (.t 20)) <|
 .op (some 22) (.loadA 6 (.t 21)) <|
 .op (some 23) (.call 86 [(.t 22)]) <|
 .op (some 24) (.notb (.t 23)) <|
 .op (some 25) (.mv (.t 24)) <|
 .cnd 25 false (
 .op (some 26) (.faddr 0 (.t 3)) <|
 .op (some 27) (.loadS (.t 26)) <|
 .op (some 28) (.mv (.t 6)) <|
 .op (some 29) (.iaddrS 1 (.t 27) (.t 28)) <|
 .op (some 30) (.loadI .i64 (.t 29)) <|
 .op (some 31) (.bin .lss (.t 30) (.c (.int .i64 0))) <|
 .nil) 32 (.t 31) <|
 .nil
def Q13_6 : Sts := .op (some 7) (.mv (.c (.int .u32 0))) <|
 .nil
def Q13_7 : Sts := .op (some 33) (.faddr 0 (.t 3)) <|
 .op (some 34) (.loadS (.t 33)) <|
 .op (some 35) (.mv (.t 6)) <|
 .op (some 36) (.iaddrS 1 (.t 34) (.t 35)) <|
 .op (some 37) (.loadI .i64 (.t 36)) <|
 .op (some 8) (.mv (.t 37)) <|
 .nil
def Q13_8 : Sts := .op (some 38) (.mv (.t 0)) <|
 .op (some 39) (.len (.t 38)) <|
 .op (some 40) (.mv (.c (.int .i64 0))) <|
 .nil
def Q13_9 : Sts := .op (some 41) (.bin .lss (.t 40) (.t 39)) <|
 .nil
def Q13_10 : Sts := .op (some 42) (.mv (.t 7)) <|
 .op (some 43) (.mv (.t 0)) <|
 .op (some 44) (.mv (.t 8)) <|
 .op (some 45) (.call 103 [(.t 43), (.t 44)]) <|
 .op (some 46) (.bin .or (.t 42) (.t 45)) <|
 .op (some 7) (.mv (.t 46)) <|
 .nil
def Q13_11 : Sts := .op (some 47) (.mv (.t 0)) <|
 .op (some 48) (.loadA 4 (.t 3)) <|
 .op (some 49) (.mv (.t 8)) <|
 .op (some 50) (.call 104 [(.t 47), (.t 48), (.t 49)]) <|
 .op (some 51) (.notb (.t 50)) <|
 .op (some 52) (.mv (.t 51)) <|
 .cnd 52 false (
 .op (some 53) (.faddr 0 (.t 3)) <|
 .op (some 54) (.loadS (.t 53)) <|
 .op (some 55) (.mv (.t 8)) <|
 .op (some 56) (.iaddrS 1 (.t 54) (.t 55)) <|
 .op (some 57) (.loadI .i64 (.t 56)) <|
 .op (some 58) (.bin .lss (.t 57) (.c (.int .i64 0))) <|
 .nil) 59 (.t 58) <|
 .nil
def Q13_12 : Sts := .op (some 60) (.faddr 0 (.t 3)) <|
 .op (some 61) (.loadS (.t 60)) <|
 .op (some 62) (.mv (.t 8)) <|
 .op (some 63) (.iaddrS 1 (.t 61) (.t 62)) <|
 .op (some 64) (.loadI .i64 (.t 63)) <|
 .op (some 8) (.mv (.t 64)) <|
 .nil
def Q13_13 : Sts := .op (some 65) (.bin .add (.t 40) (.c (.int .i64 1))) <|
 .op (some 40) (.mv (.t 65)) <|
 .nil
def Q13_L14 : RCode := (.seq (.reg Q13_9) (.seq (.cond (.t 41) .skip (.exit 2)) (.seq (.block 3 (.seq (.reg Q13_10) (.seq (.seq (.reg Q13_11) (.cond (.t 59) (.exit 2) .skip)) (.reg Q13_12)))) (.reg Q13_13))))
def Q13_14 : Sts := .op (some 66) (.mv (.t 0)) <|
 .op (some 67) (.mv (.t 6)) <|
 .op (some 68) (.call 105 [(.t 66), (.t 67)]) <|
 .op (some 9) (.mv (.t 68)) <|
 .nil
def Q13_15 : Sts := .op (some 69) (.mv (.t 0)) <|
 .op (some 70) (.len (.t 69)) <|
 .op (some 71) (.mv (.c (.int .i64 0))) <|
 .nil
def Q13_16 : Sts := .op (some 72) (.bin .lss (.t 71) (.t 70)) <|
 .nil
def Q13_17 : Sts := .op (some 73) (.mv (.t 71)) <|
 .op (some 10) (.mv (.t 73)) <|
 .nil
def Q13_18 : Sts := .op (some 74) (.mv (.t 7)) <|
 .op (some 75) (.mv (.t 10)) <|
 .op (some 76) (.bin .shr (.t 74) (.t 75)) <|
 .op (some 77) (.bin .and (.t 76) (.c (.int .u32 1))) <|
 .op (some 78) (.bin .eql (.t 77) (.c (.int .u32 1))) <|
 .nil
def Q13_19 : Sts := .op (some 79) (.mv (.t 5)) <|
 .op (some 80) (.mv (.t 10)) <|
 .op (some 81) (.iaddrS 1 (.t 79) (.t 80)) <|
 .op (some 82) (.loadI .u32 (.t 81)) <|
 .op (some 83) (.mv (.t 9)) <|
 .op (some 84) (.bin .or (.t 82) (.t 83)) <|
 .op (some 85) (.iaddrS 1 (.t 79) (.t 80)) <|
 .op none (.store 1 (.t 85) (.t 84)) <|
 .nil
def Q13_20 : Sts := .op (some 86) (.bin .add (.t 71) (.c (.int .i64 1))) <|
 .op (some 71) (.mv (.t 86)) <|
 .nil
def Q13_L21 : RCode := (.seq (.reg Q13_16) (.seq (.cond (.t 72) .skip (.exit 4)) (.seq (.block 5 (.seq (.reg Q13_17) (.seq (.reg Q13_18) (.cond (.t 78) (.reg Q13_19) .skip)))) (.reg Q13_20))))
def Q13_21 : Sts := .op (some 87) (.bin .add (.t 16) (.c (.int .i64 1))) <|
 .op (some 16) (.mv (.t 87)) <|
 .nil
def Q13_L22 : RCode := (.seq (.reg Q13_3) (.seq (.cond (.t 17) .skip (.exit 0)) (.seq (.block 1 (.seq (.reg Q13_4) (.seq (.seq (.reg Q13_5) (.cond (.t 32) (.exit 1) .skip)) (.seq (.reg Q13_6) (.seq (.reg Q13_7) (.seq (.seq (.reg Q13_8) (.block 2 (.loop Q13_L14))) (.seq (.reg Q13_14) (.seq (.reg Q13_15) (.block 4 (.loop Q13_L21)))))))))) (.reg Q13_21))))
def Q13_22 : Sts := .op (some 88) (.mv (.t 5)) <|
 .op (some 89) (.call 106 [(.t 88)]) <|
 .op (some 4) (.mv (.t 89)) <|
 .nil
def Q13 : RFun := ⟨90, [0, 1, 3, 4, 5, 6, 7, 8, 9, 10, 15, 16, 39, 40, 70, 71], (.seq (.reg Q13_0) (.seq (.reg Q13_1) (.seq (.seq (.reg Q13_2) (.block 0 (.loop Q13_L22))) (.seq (.reg Q13_22) .ret)))), [.tmp 4]⟩
theorem Q13_ok : compF Tryz.prog [0, 1, 3, 4, 5, 6, 7, 8, 9, 10, 15, 16, 39, 40, 70, 71] [15, 20, 31, 71, 88, 41, 76, 86, 65, 83, 81, 114, 117, 119, 122, 68, 100, 103, 104, 105, 137, 138, 64, 72, 96, 99, 158, 159, 132, 56, 93, 94, 130, 131, 155, 62, 23, 170] 67 = some Q13 := by kernel_rfl

/- (lockless/axiom.relation).has -/
def Q48_0 : Sts := .op (some 6) (.mv (.c (.bool false))) <|
 .nil
def Q48_1 : Sts := .op (some 7) (.mv (.t 0)) <|
 .op (some 8) (.mv (.t 1)) <|
 .op (some 9) (.iaddrS 1 (.t 7) (.t 8)) <|
 .op (some 10) (.loadI .u32 (.t 9)) <|
 .op (some 11) (.mv (.t 2)) <|
 .op (some 12) (.bin .shr (.t 10) (.t 11)) <|
 .op (some 13) (.bin .and (.t 12) (.c (.int .u32 1))) <|
 .op (some 14) (.bin .eql (.t 13) (.c (.int .u32 1))) <|
 .op (some 6) (.mv (.t 14)) <|
 .nil
def Q48 : RFun := ⟨15, [0, 1, 2, 6], (.seq (.reg Q48_0) (.seq (.reg Q48_1) .ret)), [.tmp 6]⟩
theorem Q48_ok : compF Tryz.prog [0, 1, 2, 6] [15, 20, 31, 71, 88, 41, 76, 86, 65, 83, 81, 114, 117, 119, 122, 68, 100, 103, 104, 105, 137, 138, 64, 72, 96, 99, 158, 159, 132, 56, 93, 94, 130, 131, 155, 62, 23, 170] 68 = some Q48 := by kernel_rfl

/- lockless/litmus.rebuilt -/
def Q60_0 : Sts := .op (some 2) (.box 24 (.t 0)) <|
 .op (some 4) (.alloc 24 [(.slice none 0 0)]) <|
 .nil
def Q60_1 : Sts := .op (some 5) (.alloc 24 [(.slice none 0 0)]) <|
 .nil
def Q60_2 : Sts := .op (some 12) (.faddr 0 (.t 2)) <|
 .op (some 13) (.loadS (.t 12)) <|
 .op (some 14) (.len (.t 13)) <|
 .op (some 15) (.mv (.c (.int .i64 0))) <|
 .nil
def Q60_3 : Sts := .op (some 16) (.bin .lss (.t 15) (.t 14)) <|
 .nil
def Q60_4 : Sts := .op (some 17) (.iaddrS 1 (.t 13) (.t 15)) <|
 .op (some 18) (.loadS (.t 17)) <|
 .op (some 7) (.mv (.t 18)) <|
 .nil
def Q60_5 : Sts := .op (some 8) (.mv (.c (.slice none 0 0))) <|
 .nil
def Q60_6 : Sts := .op (some 9) (.mv (.c (.bool true))) <|
 .nil
def Q60_7 : Sts := .op (some 19) (.mv (.t 7)) <|
 .op (some 20) (.len (.t 19)) <|
 .op (some 21) (.mv (.c (.int .i64 0))) <|
 .nil
def Q60_8 : Sts := .op (some 22) (.bin .lss (.t 21) (.t 20)) <|
 .nil
def Q60_9 : Sts := .op (some 23) (.iaddrS 5 (.t 19) (.t 21)) <|
 .op (some 24) (.loadA 5 (.t 23)) <|
 .op (some 11) (.alloc 83 [(.int .i64 0), (.int .i64 0), (.int .i64 0), (.int .i64 0), (.int .i64 0)]) <|
 .op none (.store 5 (.t 11) (.t 24)) <|
 .nil
def Q60_10 : Sts := .op (some 25) (.mv (.t 8)) <|
 .op (some 26) (.mv (.t 1)) <|
 .op (some 27) (.loadA 5 (.t 11)) <|
 .op (some 28) (.mv (.t 9)) <|
 .op (some 29) (.callv (.t 26) [(.t 27), (.t 28)]) <|
 .op (some 30) (.append 83 5 40 [(.int .i64 0), (.int .i64 0), (.int .i64 0), (.int .i64 0), (.int .i64 0)] (.t 25) (.t 29)) <|
 .op (some 8) (.mv (.t 30)) <|
 .nil
def Q60_11 : Sts := .op (some 31) (.mv (.t 9)) <|
 .op (some 32) (.mv (.t 31)) <|
 .cnd 32 true (
 .op (some 33) (.loadA 5 (.t 11)) <|
 .op (some 34) (.call 71 [(.t 33)]) <|
 .op (some 35) (.notb (.t 34)) <|
 .nil) 36 (.t 35) <|
 .op (some 9) (.mv (.t 36)) <|
 .nil
def Q60_12 : Sts := .op (some 37) (.bin .add (.t 21) (.c (.int .i64 1))) <|
 .op (some 21) (.mv (.t 37)) <|
 .nil
def Q60_L13 : RCode := (.seq (.reg Q60_8) (.seq (.cond (.t 22) .skip (.exit 2)) (.seq (.block 3 (.seq (.reg Q60_9) (.seq (.reg Q60_10) (.reg Q60_11)))) (.reg Q60_12))))
def Q60_13 : Sts := .op (some 38) (.faddr 0 (.t 5)) <|
 .op (some 39) (.loadS (.t 38)) <|
 .op (some 40) (.mv (.t 8)) <|
 .op (some 41) (.buildSl 70 1 [(.slice none 0 0)] [(0, 1, (.t 40))]) <|
 .op (some 42) (.append 70 1 24 [(.slice none 0 0)] (.t 39) (.t 41)) <|
 .op (some 43) (.faddr 0 (.t 5)) <|
 .op none (.store 1 (.t 43) (.t 42)) <|
 .nil
def Q60_14 : Sts := .op (some 44) (.bin .add (.t 15) (.c (.int .i64 1))) <|
 .op (some 15) (.mv (.t 44)) <|
 .nil
def Q60_L15 : RCode := (.seq (.reg Q60_3) (.seq (.cond (.t 16) .skip (.exit 0)) (.seq (.block 1 (.seq (.reg Q60_4) (.seq (.reg Q60_5) (.seq (.reg Q60_6) (.seq (.seq (.reg Q60_7) (.block 2 (.loop Q60_L13))) (.reg Q60_13)))))) (.reg Q60_14))))
def Q60_15 : Sts := .op (some 45) (.loadA 1 (.t 5)) <|
 .op none (.store 1 (.t 4) (.t 45)) <|
 .nil
def Q60 : RFun := ⟨46, [0, 1, 2, 4, 5, 7, 8, 9, 11, 13, 14, 15, 19, 20, 21], (.seq (.reg Q60_0) (.seq (.reg Q60_1) (.seq (.seq (.reg Q60_2) (.block 0 (.loop Q60_L15))) (.seq (.reg Q60_15) .ret)))), [.cellA 4 1]⟩
theorem Q60_ok : compF Tryz.prog [0, 1, 2, 4, 5, 7, 8, 9, 11, 13, 14, 15, 19, 20, 21] [15, 20, 31, 71, 88, 41, 76, 86, 65, 83, 81, 114, 117, 119, 122, 68, 100, 103, 104, 105, 137, 138, 64, 72, 96, 99, 158, 159, 132, 56, 93, 94, 130, 131, 155, 62, 23, 170] 69 = some Q60 := by kernel_rfl

/- lockless/litmus.Expand$1 -/
def Q55_0 : Sts := .op (some 2) (.box 83 (.t 0)) <|
 .op (some 4) (.mv (.c (.slice none 0 0))) <|
 .nil
def Q55_1 : Sts := .op (some 5) (.loadA 5 (.t 2)) <|
 .op (some 6) (.call 71 [(.t 5)]) <|
 .op (some 7) (.notb (.t 6)) <|
 .op (some 8) (.mv (.t 7)) <|
 .cnd 8 false (
 .op (some 9) (.faddr 4 (.t 2)) <|
 .op (some 10) (.loadI .i64 (.t 9)) <|
 .op (some 11) (.bin .neq (.t 10) (.c (.int .i64 4))) <|
 .nil) 12 (.t 11) <|
 .nil
def Q55_2 : Sts := .op (some 13) (.loadA 5 (.t 2)) <|
 .op (some 14) (.buildSl 83 1 [(.int .i64 0), (.int .i64 0), (.int .i64 0), (.int .i64 0), (.int .i64 0)] [(0, 5, (.t 13))]) <|
 .op (some 4) (.mv (.t 14)) <|
 .nil
def Q55_3 : Sts := .op (some 16) (.faddr 0 (.t 2)) <|
 .op (some 17) (.loadI .i64 (.t 16)) <|
 .op (some 18) (.faddr 4 (.t 2)) <|
 .op (some 19) (.loadI .i64 (.t 18)) <|
 .op (some 20) (.call 72 [(.t 17), (.t 19)]) <|
 .op (some 15) (.mv (.t 20)) <|
 .op (some 21) (.extract 0 (.t 15)) <|
 .op (some 22) (.extract 1 (.t 15)) <|
 .op (some 23) (.faddr 4 (.t 2)) <|
 .op none (.store 1 (.t 23) (.t 21)) <|
 .nil
def Q55_4 : AT := .q (.op 1 (some 25) (.loadA 5 (.t 2)) <|
 .nil) <|
 .s 0 (some 24) (.call 73 []) false (
 .q (.nil) <|
 .s 2 (some 26) (.call 73 []) false (
 .q (.nil) <|
 .s 3 (some 27) (.buildSl 83 3 [(.int .i64 0), (.int .i64 0), (.int .i64 0), (.int .i64 0), (.int .i64 0), (.int .i64 0), (.int .i64 0), (.int .i64 0), (.int .i64 0), (.int .i64 0), (.int .i64 0), (.int .i64 0), (.int .i64 0), (.int .i64 0), (.int .i64 0)] [(0, 5, (.t 24)), (5, 5, (.t 25)), (10, 5, (.t 26))]) true (
 .q (.op 4 (some 4) (.mv (.t 27)) <|
 .nil) <|
 .fin) <|
 .no) <|
 .no) <|
 .no
def Q55 : RFun := ⟨28, [0, 2, 4], (.seq (.reg Q55_0) (.seq (.seq (.reg Q55_1) (.cond (.t 12) (.seq (.reg Q55_2) .ret) .skip)) (.seq (.reg Q55_3) (.seq (.any Q55_4) .ret)))), [.tmp 4]⟩
theorem Q55_ok : compF Tryz.prog [0, 2, 4] [15, 20, 31, 71, 88, 41, 76, 86, 65, 83, 81, 114, 117, 119, 122, 68, 100, 103, 104, 105, 137, 138, 64, 72, 96, 99, 158, 159, 132, 56, 93, 94, 130, 131, 155, 62, 23, 170] 70 = some Q55 := by kernel_rfl

/- lockless/litmus.access -/
def Q56_0 : Sts := .op (some 1) (.box 83 (.t 0)) <|
 .op (some 2) (.mv (.c (.bool false))) <|
 .nil
def Q56_1 : Sts := .op (some 3) (.faddr 0 (.t 1)) <|
 .op (some 4) (.loadI .i64 (.t 3)) <|
 .op (some 5) (.bin .geq (.t 4) (.c (.int .i64 0))) <|
 .op (some 6) (.mv (.t 5)) <|
 .cnd 6 true (
 .op (some 7) (.faddr 0 (.t 1)) <|
 .op (some 8) (.loadI .i64 (.t 7)) <|
 .op (some 9) (.bin .leq (.t 8) (.c (.int .i64 4))) <|
 .nil) 10 (.t 9) <|
 .op (some 2) (.mv (.t 10)) <|
 .nil
def Q56 : RFun := ⟨11, [0, 1, 2], (.seq (.reg Q56_0) (.seq (.reg Q56_1) .ret)), [.tmp 2]⟩
theorem Q56_ok : compF Tryz.prog [0, 1, 2] [15, 20, 31, 71, 88, 41, 76, 86, 65, 83, 81, 114, 117, 119, 122, 68, 100, 103, 104, 105, 137, 138, 64, 72, 96, 99, 158, 159, 132, 56, 93, 94, 130, 131, 155, 62, 23, 170] 71 = some Q56 := by kernel_rfl

/- lockless/order.Plain -/
def Q69_0 : Sts := .op (some 4) (.mv (.c (.int .i64 0))) <|
 .op (some 5) (.mv (.c (.int .i64 0))) <|
 .nil
def Q69_1 : Sts := .op (some 9) (.mv (.t 0)) <|
 .op (some 10) (.mv (.t 1)) <|
 .op (some 11) (.call 64 [(.t 9), (.t 10)]) <|
 .op (some 8) (.mv (.t 11)) <|
 .op (some 12) (.extract 0 (.t 8)) <|
 .op (some 13) (.extract 1 (.t 8)) <|
 .op (some 6) (.mv (.t 12)) <|
 .op (some 7) (.mv (.t 13)) <|
 .nil
def Q69_2 : Sts := .op (some 15) (.mv (.t 7)) <|
 .op (some 16) (.bin .neq (.t 15) (.c (.int .i64 0))) <|
 .op (some 17) (.mv (.t 16)) <|
 .cnd 17 false (
 .op (some 18) (.mv (.t 6)) <|
 .op (some 19) (.notb (.t 18)) <|
 .nil) 20 (.t 19) <|
 .op (some 21) (.mv (.t 20)) <|
 .cnd 21 false (
 .op (some 22) (.mv (.t 0)) <|
 .op (some 23) (.bin .eql (.t 22) (.c (.int .i64 5))) <|
 .nil) 24 (.t 23) <|
 .op (some 14) (.mv (.t 24)) <|
 .nil
def Q69_3 : Sts := .op (some 4) (.mv (.c (.int .i64 0))) <|
 .op (some 5) (.mv (.c (.int .i64 1))) <|
 .nil
def Q69_4 : Sts := .op (some 26) (.mv (.t 1)) <|
 .op (some 27) (.bin .neq (.t 26) (.c (.int .i64 4))) <|
 .op (some 25) (.mv (.t 27)) <|
 .nil
def Q69_5 : Sts := .op (some 28) (.mv (.t 1)) <|
 .op (some 4) (.mv (.t 28)) <|
 .op (some 5) (.mv (.c (.int .i64 0))) <|
 .nil
def Q69_6 : Sts := .op (some 30) (.mv (.t 0)) <|
 .op (some 31) (.bin .eql (.t 30) (.c (.int .i64 0))) <|
 .op (some 29) (.mv (.t 31)) <|
 .nil
def Q69_7 : Sts := .op (some 4) (.mv (.c (.int .i64 1))) <|
 .op (some 5) (.mv (.c (.int .i64 0))) <|
 .nil
def Q69_8 : Sts := .op (some 33) (.mv (.t 0)) <|
 .op (some 34) (.bin .eql (.t 33) (.c (.int .i64 1))) <|
 .op (some 32) (.mv (.t 34)) <|
 .nil
def Q69_9 : Sts := .op (some 4) (.mv (.c (.int .i64 2))) <|
 .op (some 5) (.mv (.c (.int .i64 0))) <|
 .nil
def Q69_10 : Sts := .op (some 4) (.mv (.c (.int .i64 3))) <|
 .op (some 5) (.mv (.c (.int .i64 0))) <|
 .nil
def Q69 : RFun := ⟨35, [0, 1, 4, 5, 6, 7], (.seq (.reg Q69_0) (.seq (.reg Q69_1) (.seq (.block 0 (.seq (.reg Q69_2) (.cond (.t 14) (.seq (.reg Q69_3) .ret) (.seq (.reg Q69_4) (.cond (.t 25) (.seq (.reg Q69_5) .ret) (.seq (.reg Q69_6) (.cond (.t 29) (.seq (.reg Q69_7) .ret) (.seq (.reg Q69_8) (.cond (.t 32) (.seq (.reg Q69_9) .ret) .skip))))))))) (.seq (.reg Q69_10) .ret)))), [.tmp 4, .tmp 5]⟩
theorem Q69_ok : compF Tryz.prog [0, 1, 4, 5, 6, 7] [15, 20, 31, 71, 88, 41, 76, 86, 65, 83, 81, 114, 117, 119, 122, 68, 100, 103, 104, 105, 137, 138, 64, 72, 96, 99, 158, 159, 132, 56, 93, 94, 130, 131, 155, 62, 23, 170] 72 = some Q69 := by kernel_rfl

/- lockless/litmus.strongFence -/
def Q61_0 : Sts := .op (some 0) (.alloc 83 [(.int .i64 0), (.int .i64 0), (.int .i64 0), (.int .i64 0), (.int .i64 0)]) <|
 .nil
def Q61_1 : Sts := .op (some 1) (.build [(.int .i64 0), (.int .i64 0), (.int .i64 0), (.int .i64 0), (.int .i64 0)] [(0, 1, (.c (.int .i64 5))), (4, 1, (.c (.int .i64 4)))]) <|
 .op none (.store 5 (.t 0) (.t 1)) <|
 .nil
def Q61 : RFun := ⟨2, [0], (.seq (.reg Q61_0) (.seq (.reg Q61_1) .ret)), [.cellA 0 5]⟩
theorem Q61_ok : compF Tryz.prog [0] [15, 20, 31, 71, 88, 41, 76, 86, 65, 83, 81, 114, 117, 119, 122, 68, 100, 103, 104, 105, 137, 138, 64, 72, 96, 99, 158, 159, 132, 56, 93, 94, 130, 131, 155, 62, 23, 170] 73 = some Q61 := by kernel_rfl

/- (lockless/axiom.program).pick -/
def Q37_0 : Sts := .op (some 4) (.mv (.c (.slice none 0 0))) <|
 .nil
def Q37_1 : Sts := .op (some 5) (.mv (.c (.slice none 0 0))) <|
 .nil
def Q37_2 : Sts := .op (some 7) (.mv (.t 0)) <|
 .op (some 8) (.len (.t 7)) <|
 .op (some 9) (.mv (.c (.int .i64 0))) <|
 .nil
def Q37_3 : Sts := .op (some 10) (.bin .lss (.t 9) (.t 8)) <|
 .nil
def Q37_4 : Sts := .op (some 11) (.mv (.t 9)) <|
 .op (some 6) (.mv (.t 11)) <|
 .nil
def Q37_5 : Sts := .op (some 12) (.mv (.t 1)) <|
 .op (some 13) (.mv (.t 6)) <|
 .op (some 14) (.callv (.t 12) [(.t 13)]) <|
 .nil
def Q37_6 : Sts := .op (some 15) (.mv (.t 5)) <|
 .op (some 16) (.mv (.t 6)) <|
 .op (some 17) (.buildSl 3 1 [(.int .i64 0)] [(0, 1, (.t 16))]) <|
 .op (some 18) (.append 3 1 8 [(.int .i64 0)] (.t 15) (.t 17)) <|
 .op (some 5) (.mv (.t 18)) <|
 .nil
def Q37_7 : Sts := .op (some 19) (.bin .add (.t 9) (.c (.int .i64 1))) <|
 .op (some 9) (.mv (.t 19)) <|
 .nil
def Q37_L8 : RCode := (.seq (.reg Q37_3) (.seq (.cond (.t 10) .skip (.exit 0)) (.seq (.block 1 (.seq (.reg Q37_4) (.seq (.reg Q37_5) (.cond (.t 14) (.reg Q37_6) .skip)))) (.reg Q37_7))))
def Q37_8 : Sts := .op (some 20) (.mv (.t 5)) <|
 .op (some 4) (.mv (.t 20)) <|
 .nil
def Q37 : RFun := ⟨21, [0, 1, 4, 5, 6, 8, 9], (.seq (.reg Q37_0) (.seq (.reg Q37_1) (.seq (.seq (.reg Q37_2) (.block 0 (.loop Q37_L8))) (.seq (.reg Q37_8) .ret)))), [.tmp 4]⟩
theorem Q37_ok : compF Tryz.prog [0, 1, 4, 5, 6, 8, 9] [15, 20, 31, 71, 88, 41, 76, 86, 65, 83, 81, 114, 117, 119, 122, 68, 100, 103, 104, 105, 137, 138, 64, 72, 96, 99, 158, 159, 132, 56, 93, 94, 130, 131, 155, 62, 23, 170] 74 = some Q37 := by kernel_rfl

/- (lockless/axiom.program).executions$1 -/
def Q22_0 : Sts := .op (some 3) (.mv (.c (.bool false))) <|
 .nil
def Q22_1 : Sts := .op (some 4) (.loadS (.t 1)) <|
 .op (some 5) (.mv (.t 0)) <|
 .op (some 6) (.iaddrS 6 (.t 4) (.t 5)) <|
 .op (some 7) (.loadA 6 (.t 6)) <|
 .op (some 8) (.call 76 [(.t 7)]) <|
 .op (some 3) (.mv (.t 8)) <|
 .nil
def Q22 : RFun := ⟨9, [0, 1, 3], (.seq (.reg Q22_0) (.seq (.reg Q22_1) .ret)), [.tmp 3]⟩
theorem Q22_ok : compF Tryz.prog [0, 1, 3] [15, 20, 31, 71, 88, 41, 76, 86, 65, 83, 81, 114, 117, 119, 122, 68, 100, 103, 104, 105, 137, 138, 64, 72, 96, 99, 158, 159, 132, 56, 93, 94, 130, 131, 155, 62, 23, 170] 75 = some Q22 := by kernel_rfl

/- (lockless/axiom.event).strong -/
def Q11_0 : Sts := .op (some 1) (.box 121 (.t 0)) <|
 .op (some 2) (.mv (.c (.bool false))) <|
 .nil
def Q11_1 : Sts := .op (some 3) (.faddr 0 (.t 1)) <|
 .op (some 4) (.faddr 0 (.t 3)) <|
 .op (some 5) (.loadI .i64 (.t 4)) <|
 .op (some 6) (.bin .eql (.t 5) (.c (.int .i64 5))) <|
 .op (some 7) (.mv (.t 6)) <|
 .cnd 7 true (
 .op (some 8) (.faddr 0 (.t 1)) <|
 .op (some 9) (.faddr 4 (.t 8)) <|
 .op (some 10) (.loadI .i64 (.t 9)) <|
 .op (some 11) (.bin .eql (.t 10) (.c (.int .i64 4))) <|
 .nil) 12 (.t 11) <|
 .op (some 2) (.mv (.t 12)) <|
 .nil
def Q11 : RFun := ⟨13, [0, 1, 2], (.seq (.reg Q11_0) (.seq (.reg Q11_1) .ret)), [.tmp 2]⟩
theorem Q11_ok : compF Tryz.prog [0, 1, 2] [15, 20, 31, 71, 88, 41, 76, 86, 65, 83, 81, 114, 117, 119, 122, 68, 100, 103, 104, 105, 137, 138, 64, 72, 96, 99, 158, 159, 132, 56, 93, 94, 130, 131, 155, 62, 23, 170] 76 = some Q11 := by kernel_rfl

/- (lockless/axiom.program).executions$2 -/
def Q23_0 : Sts := .op (some 3) (.box 124 (.t 0)) <|
 .nil
def Q23_1 : Sts := .op (some 8) (.loadS (.t 1)) <|
 .op (some 9) (.call 78 [(.t 8)]) <|
 .nil
def Q23_2 : Sts := .op (some 4) (.alloc 35 [(.slice none 0 0)]) <|
 .op none (.store 1 (.t 4) (.t 10)) <|
 .nil
def Q23_3 : Sts := .op (some 11) (.loadS (.t 1)) <|
 .op (some 12) (.loadS (.t 4)) <|
 .op (some 13) (.call 79 [(.t 11), (.t 12), (.c (.int .i64 0))]) <|
 .nil
def Q23_4 : Sts := .op (some 5) (.alloc 26 [(.slice none 0 0)]) <|
 .op none (.store 1 (.t 5) (.t 14)) <|
 .nil
def Q23_5 : Sts := .op (some 15) (.loadS (.t 1)) <|
 .op (some 16) (.loadS (.t 4)) <|
 .op (some 17) (.loadS (.t 5)) <|
 .op (some 18) (.call 80 [(.t 15), (.t 16), (.t 17)]) <|
 .nil
def Q23_6 : Sts := .op (some 6) (.mv (.t 19)) <|
 .nil
def Q23_7 : Sts := .op (some 20) (.mv (.t 6)) <|
 .op (some 21) (.loadS (.t 4)) <|
 .op (some 22) (.loadS (.t 5)) <|
 .op (some 23) (.build [(.slice none 0 0), (.slice none 0 0), (.slice none 0 0), (.slice none 0 0)] [(0, 1, (.t 20)), (1, 1, (.t 21)), (2, 1, (.t 22))]) <|
 .op (some 7) (.alloc 45 [(.slice none 0 0), (.slice none 0 0), (.slice none 0 0), (.slice none 0 0)]) <|
 .op none (.store 4 (.t 7) (.t 23)) <|
 .nil
def Q23_8 : Sts := .op (some 24) (.loadS (.t 1)) <|
 .op (some 25) (.loadA 4 (.t 7)) <|
 .op (some 26) (.call 81 [(.t 24), (.t 25)]) <|
 .op (some 27) (.notb (.t 26)) <|
 .nil
def Q23_9 : Sts := .op (some 28) (.loadS (.t 1)) <|
 .op (some 29) (.loadS (.t 2)) <|
 .op (some 30) (.call 82 [(.t 28), (.t 29)]) <|
 .nil
def Q23_10 : Sts := .op (some 32) (.faddr 3 (.t 7)) <|
 .op none (.store 1 (.t 32) (.t 31)) <|
 .nil
def Q23_11 : AT := .q (.op 0 (some 33) (.loadS (.t 1)) <|
 .op 1 (some 34) (.loadA 4 (.t 7)) <|
 .op 2 (some 35) (.call 83 [(.t 33), (.t 34)]) <|
 .op 3 (some 36) (.bin .eql (.t 35) (.c (.int .i64 0))) <|
 .op 4 (some 37) (.mv (.t 36)) <|
 .nil) <|
 .br 37 (
 .q (.nil) <|
 .q (.op 5 (some 38) (.loadX (.t 3)) <|
 .nil) <|
 .q (.nil) <|
 .q (.op 6 (some 39) (.loadA 4 (.t 7)) <|
 .nil) <|
 .q (.nil) <|
 .s 7 (some 40) (.call 84 [(.t 39)]) false (
 .q (.nil) <|
 .s 8 (some 41) (.callv (.t 38) [(.t 40)]) true (
 .q (.g 37 true (
 .op 9 (some 42) (.notb (.t 41)) <|
 .nil) 10 43 (.t 42) <|
 .nil) <|
 .fin) <|
 .no) <|
 .no) <|
 .q (.nil) <|
 .sk 5 (some 38) <|
 .q (.nil) <|
 .sk 6 (some 39) <|
 .q (.nil) <|
 .sk 7 (some 40) <|
 .q (.nil) <|
 .sk 8 (some 41) <|
 .q (.g 37 true (
 .op 9 (some 42) (.notb (.t 41)) <|
 .nil) 10 43 (.t 42) <|
 .nil) <|
 .fin
def R_axiom_program_executions_S2_A12 : RCode := (.reg Q23_10)
def R_axiom_program_executions_S2_B12 : RCode := (.block 7 (.seq (.any Q23_11) (.cond (.t 43) .ret .skip)))
def R_axiom_program_executions_S2_A13 : RCode := (.reg Q23_6)
def R_axiom_program_executions_S2_B13 : RCode := (.block 5 (.seq (.reg Q23_7) (.seq (.seq (.reg Q23_8) (.cond (.t 27) (.exit 5) .skip)) (.seq (.reg Q23_9) (.block 6 (.rangeF (.t 30) [31] R_axiom_program_executions_S2_A12 R_axiom_program_executions_S2_B12))))))
def R_axiom_program_executions_S2_A14 : RCode := (.reg Q23_4)
def R_axiom_program_executions_S2_B14 : RCode := (.block 3 (.seq (.reg Q23_5) (.block 4 (.rangeF (.t 18) [19] R_axiom_program_executions_S2_A13 R_axiom_program_executions_S2_B13))))
def R_axiom_program_executions_S2_A15 : RCode := (.reg Q23_2)
def R_axiom_program_executions_S2_B15 : RCode := (.block 1 (.seq (.reg Q23_3) (.block 2 (.rangeF (.t 13) [14] R_axiom_program_executions_S2_A14 R_axiom_program_executions_S2_B14))))
def Q23 : RFun := ⟨44, [0, 1, 2, 3, 4, 5, 6, 7, 9, 10, 13, 14, 18, 19, 30, 31], (.seq (.reg Q23_0) (.seq (.reg Q23_1) (.block 0 (.rangeF (.t 9) [10] R_axiom_program_executions_S2_A15 R_axiom_program_executions_S2_B15)))), []⟩
theorem Q23_ok : compF Tryz.prog [0, 1, 2, 3, 4, 5, 6, 7, 9, 10, 13, 14, 18, 19, 30, 31] [15, 20, 31, 71, 88, 41, 76, 86, 65, 83, 81, 114, 117, 119, 122, 68, 100, 103, 104, 105, 137, 138, 64, 72, 96, 99, 158, 159, 132, 56, 93, 94, 130, 131, 155, 62, 23, 170] 77 = some Q23 := by kernel_rfl

/- (lockless/axiom.program).dones -/
def Q16_0 : Sts := .op (some 1) (.box 74 (.t 0)) <|
 .op (some 2) (.mv (.c .nilFunc)) <|
 .nil
def Q16_1 : Sts := .op (some 3) (.mkfn 107 [] [(.t 1)]) <|
 .op (some 2) (.mv (.t 3)) <|
 .nil
def Q16 : RFun := ⟨4, [0, 1, 2], (.seq (.reg Q16_0) (.seq (.reg Q16_1) .ret)), [.tmp 2]⟩
theorem Q16_ok : compF Tryz.prog [0, 1, 2] [15, 20, 31, 71, 88, 41, 76, 86, 65, 83, 81, 114, 117, 119, 122, 68, 100, 103, 104, 105, 137, 138, 64, 72, 96, 99, 158, 159, 132, 56, 93, 94, 130, 131, 155, 62, 23, 170] 78 = some Q16 := by kernel_rfl

/- (lockless/axiom.program).orders -/
def Q34_0 : Sts := .op (some 3) (.box 74 (.t 0)) <|
 .op (some 4) (.box 35 (.t 1)) <|
 .op (some 5) (.box 3 (.t 2)) <|
 .op (some 6) (.mv (.c .nilFunc)) <|
 .nil
def Q34_1 : Sts := .op (some 7) (.mkfn 109 [] [(.t 5), (.t 3), (.t 4)]) <|
 .op (some 6) (.mv (.t 7)) <|
 .nil
def Q34 : RFun := ⟨8, [0, 1, 2, 3, 4, 5, 6], (.seq (.reg Q34_0) (.seq (.reg Q34_1) .ret)), [.tmp 6]⟩
theorem Q34_ok : compF Tryz.prog [0, 1, 2, 3, 4, 5, 6] [15, 20, 31, 71, 88, 41, 76, 86, 65, 83, 81, 114, 117, 119, 122, 68, 100, 103, 104, 105, 137, 138, 64, 72, 96, 99, 158, 159, 132, 56, 93, 94, 130, 131, 155, 62, 23, 170] 79 = some Q34 := by kernel_rfl

/- (lockless/axiom.program).froms -/
def Q27_0 : Sts := .op (some 3) (.box 74 (.t 0)) <|
 .op (some 4) (.box 35 (.t 1)) <|
 .op (some 5) (.box 26 (.t 2)) <|
 .op (some 6) (.mv (.c .nilFunc)) <|
 .nil
def Q27_1 : Sts := .op (some 7) (.mkfn 111 [] [(.t 3), (.t 5), (.t 4)]) <|
 .op (some 6) (.mv (.t 7)) <|
 .nil
def Q27 : RFun := ⟨8, [0, 1, 2, 3, 4, 5, 6], (.seq (.reg Q27_0) (.seq (.reg Q27_1) .ret)), [.tmp 6]⟩
theorem Q27_ok : compF Tryz.prog [0, 1, 2, 3, 4, 5, 6] [15, 20, 31, 71, 88, 41, 76, 86, 65, 83, 81, 114, 117, 119, 122, 68, 100, 103, 104, 105, 137, 138, 64, 72, 96, 99, 158, 159, 132, 56, 93, 94, 130, 131, 155, 62, 23, 170] 80 = some Q27 := by kernel_rfl

/- (lockless/axiom.program).possible -/
def Q38_0 : Sts := .op (some 3) (.box 45 (.t 1)) <|
 .op (some 4) (.mv (.c (.bool false))) <|
 .nil
def Q38_1 : Sts := .op (some 11) (.mv (.t 0)) <|
 .op (some 12) (.loadA 4 (.t 3)) <|
 .op (some 13) (.call 85 [(.t 11), (.t 12)]) <|
 .op (some 10) (.mv (.t 13)) <|
 .op (some 14) (.extract 0 (.t 10)) <|
 .op (some 15) (.extract 1 (.t 10)) <|
 .op (some 16) (.extract 2 (.t 10)) <|
 .op (some 5) (.mv (.t 14)) <|
 .op (some 6) (.mv (.t 15)) <|
 .op (some 7) (.mv (.t 16)) <|
 .nil
def Q38_2 : Sts := .op (some 17) (.mv (.t 0)) <|
 .op (some 18) (.len (.t 17)) <|
 .op (some 19) (.mv (.c (.int .i64 0))) <|
 .nil
def Q38_3 : Sts := .op (some 20) (.bin .lss (.t 19) (.t 18)) <|
 .nil
def Q38_4 : Sts := .op (some 21) (.mv (.t 19)) <|
 .op (some 22) (.iaddrS 6 (.t 17) (.t 19)) <|
 .op (some 23) (.loadA 6 (.t 22)) <|
 .op (some 9) (.alloc 121 [(.int .i64 0), (.int .i64 0), (.int .i64 0), (.int .i64 0), (.int .i64 0), (.int .i64 0)]) <|
 .op (some 8) (.mv (.t 21)) <|
 .op none (.store 6 (.t 9) (.t 23)) <|
 .nil
def Q38_5 : AT := .q (.op 0 (some 24) (.faddr 0 (.t 9)) <|
 .op 1 (some 25) (.faddr 0 (.t 24)) <|
 .op 2 (some 26) (.loadI .i64 (.t 25)) <|
 .op 3 (some 27) (.bin .eql (.t 26) (.c (.int .i64 3))) <|
 .op 4 (some 28) (.mv (.t 27)) <|
 .g 28 true (
 .op 5 (some 29) (.faddr 1 (.t 3)) <|
 .op 6 (some 30) (.loadS (.t 29)) <|
 .op 7 (some 31) (.mv (.t 8)) <|
 .op 8 (some 32) (.iaddrS 1 (.t 30) (.t 31)) <|
 .op 9 (some 33) (.loadB (.t 32)) <|
 .op 10 (some 34) (.mv (.t 5)) <|
 .op 11 (some 35) (.mv (.t 8)) <|
 .op 12 (some 36) (.iaddrS 1 (.t 34) (.t 35)) <|
 .op 13 (some 37) (.loadI .i64 (.t 36)) <|
 .op 14 (some 38) (.faddr 0 (.t 9)) <|
 .op 15 (some 39) (.faddr 2 (.t 38)) <|
 .op 16 (some 40) (.loadI .i64 (.t 39)) <|
 .op 17 (some 41) (.bin .eql (.t 37) (.t 40)) <|
 .op 18 (some 42) (.eqb true (.t 33) (.t 41)) <|
 .nil) 19 43 (.t 42) <|
 .op 20 (some 44) (.mv (.t 43)) <|
 .g 44 false (
 .op 21 (some 45) (.faddr 0 (.t 9)) <|
 .op 22 (some 46) (.faddr 0 (.t 45)) <|
 .op 23 (some 47) (.loadI .i64 (.t 46)) <|
 .op 24 (some 48) (.bin .eql (.t 47) (.c (.int .i64 4))) <|
 .op 25 (some 49) (.mv (.t 48)) <|
 .g 49 true (
 .op 26 (some 50) (.faddr 1 (.t 3)) <|
 .op 27 (some 51) (.loadS (.t 50)) <|
 .op 28 (some 52) (.mv (.t 8)) <|
 .op 29 (some 53) (.iaddrS 1 (.t 51) (.t 52)) <|
 .op 30 (some 54) (.loadB (.t 53)) <|
 .nil) 31 55 (.t 54) <|
 .op 32 (some 56) (.mv (.t 55)) <|
 .g 56 true (
 .op 33 (some 57) (.mv (.t 5)) <|
 .op 34 (some 58) (.mv (.t 8)) <|
 .op 35 (some 59) (.iaddrS 1 (.t 57) (.t 58)) <|
 .op 36 (some 60) (.loadI .i64 (.t 59)) <|
 .op 37 (some 61) (.faddr 0 (.t 9)) <|
 .op 38 (some 62) (.faddr 2 (.t 61)) <|
 .op 39 (some 63) (.loadI .i64 (.t 62)) <|
 .op 40 (some 64) (.bin .neq (.t 60) (.t 63)) <|
 .nil) 41 65 (.t 64) <|
 .nil) 42 66 (.t 65) <|
 .nil) <|
 .fin
def Q38_6 : Sts := .op (some 4) (.mv (.c (.bool false))) <|
 .nil
def Q38_7 : Sts := .op (some 67) (.bin .add (.t 19) (.c (.int .i64 1))) <|
 .op (some 19) (.mv (.t 67)) <|
 .nil
def Q38_L8 : RCode := (.seq (.reg Q38_3) (.seq (.cond (.t 20) .skip (.exit 0)) (.seq (.block 1 (.seq (.reg Q38_4) (.seq (.any Q38_5) (.cond (.t 66) (.seq (.reg Q38_6) .ret) .skip)))) (.reg Q38_7))))
def Q38_8 : Sts := .op (some 68) (.mv (.t 0)) <|
 .op (some 69) (.loadA 4 (.t 3)) <|
 .op (some 70) (.call 83 [(.t 68), (.t 69)]) <|
 .op (some 71) (.bin .eql (.t 70) (.c (.int .i64 0))) <|
 .op (some 4) (.mv (.t 71)) <|
 .nil
def Q38 : RFun := ⟨72, [0, 1, 3, 4, 5, 8, 9, 17, 18, 19], (.seq (.reg Q38_0) (.seq (.reg Q38_1) (.seq (.seq (.reg Q38_2) (.block 0 (.loop Q38_L8))) (.seq (.reg Q38_8) .ret)))), [.tmp 4]⟩
theorem Q38_ok : compF Tryz.prog [0, 1, 3, 4, 5, 8, 9, 17, 18, 19] [15, 20, 31, 71, 88, 41, 76, 86, 65, 83, 81, 114, 117, 119, 122, 68, 100, 103, 104, 105, 137, 138, 64, 72, 96, 99, 158, 159, 132, 56, 93, 94, 130, 131, 155, 62, 23, 170] 81 = some Q38 := by kernel_rfl

/- (lockless/axiom.program).merges -/
def Q30_0 : Sts := .op (some 2) (.box 74 (.t 0)) <|
 .op (some 3) (.box 34 (.t 1)) <|
 .op (some 4) (.mv (.c .nilFunc)) <|
 .nil
def Q30_1 : Sts := .op (some 5) (.mkfn 115 [] [(.t 2), (.t 3)]) <|
 .op (some 4) (.mv (.t 5)) <|
 .nil
def Q30 : RFun := ⟨6, [0, 1, 2, 3, 4], (.seq (.reg Q30_0) (.seq (.reg Q30_1) .ret)), [.tmp 4]⟩
theorem Q30_ok : compF Tryz.prog [0, 1, 2, 3, 4] [15, 20, 31, 71, 88, 41, 76, 86, 65, 83, 81, 114, 117, 119, 122, 68, 100, 103, 104, 105, 137, 138, 64, 72, 96, 99, 158, 159, 132, 56, 93, 94, 130, 131, 155, 62, 23, 170] 82 = some Q30 := by kernel_rfl

/- (lockless/axiom.program).broken -/
def Q14_0 : Sts := .op (some 3) (.box 45 (.t 1)) <|
 .op (some 4) (.mv (.c (.int .i64 0))) <|
 .nil
def Q14_1 : Sts := .op (some 17) (.mv (.t 0)) <|
 .op (some 18) (.loadA 4 (.t 3)) <|
 .op (some 19) (.call 102 [(.t 17), (.t 18)]) <|
 .op (some 5) (.mv (.t 19)) <|
 .nil
def Q14_2 : Sts := .op (some 20) (.faddr 0 (.t 3)) <|
 .op (some 21) (.loadS (.t 20)) <|
 .op (some 22) (.len (.t 21)) <|
 .op (some 23) (.mv (.c (.int .i64 0))) <|
 .nil
def Q14_3 : Sts := .op (some 24) (.bin .lss (.t 23) (.t 22)) <|
 .nil
def Q14_4 : Sts := .op (some 25) (.mv (.t 23)) <|
 .op (some 26) (.iaddrS 1 (.t 21) (.t 23)) <|
 .op (some 27) (.loadI .i64 (.t 26)) <|
 .op (some 6) (.mv (.t 25)) <|
 .op (some 7) (.mv (.t 27)) <|
 .nil
def Q14_5 : Sts := .op (some 28) (.mv (.t 7)) <|
 .op (some 29) (.bin .geq (.t 28) (.c (.int .i64 0))) <|
 .nil
def Q14_6 : Sts := .op (some 30) (.mv (.t 5)) <|
 .op (some 31) (.mv (.t 7)) <|
 .op (some 32) (.mv (.t 6)) <|
 .op (some 33) (.call 121 [(.t 30), (.t 31), (.t 32)]) <|
 .nil
def Q14_7 : Sts := .op (some 34) (.bin .add (.t 23) (.c (.int .i64 1))) <|
 .op (some 23) (.mv (.t 34)) <|
 .nil
def Q14_L8 : RCode := (.seq (.reg Q14_3) (.seq (.cond (.t 24) .skip (.exit 0)) (.seq (.block 1 (.seq (.reg Q14_4) (.seq (.reg Q14_5) (.cond (.t 29) (.reg Q14_6) .skip)))) (.reg Q14_7))))
def Q14_8 : Sts := .op (some 35) (.mv (.t 5)) <|
 .op (some 36) (.call 106 [(.t 35)]) <|
 .op (some 37) (.call 122 [(.t 36)]) <|
 .nil
def Q14_9 : Sts := .op (some 4) (.mv (.c (.int .i64 2))) <|
 .nil
def Q14_10 : AT := .q (.op 0 (some 38) (.mv (.t 0)) <|
 .op 1 (some 39) (.loadA 4 (.t 3)) <|
 .op 3 (some 41) (.mv (.t 0)) <|
 .op 4 (some 42) (.loadA 4 (.t 3)) <|
 .nil) <|
 .s 2 (some 40) (.call 67 [(.t 38), (.t 39)]) false (
 .q (.nil) <|
 .s 5 (some 43) (.call 123 [(.t 41), (.t 42)]) true (
 .q (.op 6 (some 8) (.mv (.t 40)) <|
 .op 7 (some 9) (.mv (.t 43)) <|
 .nil) <|
 .fin) <|
 .no) <|
 .no
def Q14_11 : Sts := .op (some 44) (.mv (.t 8)) <|
 .op (some 45) (.call 122 [(.t 44)]) <|
 .nil
def Q14_12 : Sts := .op (some 4) (.mv (.c (.int .i64 3))) <|
 .nil
def Q14_13 : Sts := .op (some 46) (.mv (.t 0)) <|
 .op (some 47) (.len (.t 46)) <|
 .op (some 48) (.mv (.c (.int .i64 0))) <|
 .nil
def Q14_14 : Sts := .op (some 49) (.bin .lss (.t 48) (.t 47)) <|
 .nil
def Q14_15 : Sts := .op (some 50) (.mv (.t 48)) <|
 .op (some 10) (.mv (.t 50)) <|
 .nil
def Q14_16 : Sts := .op (some 51) (.mv (.t 0)) <|
 .op (some 52) (.len (.t 51)) <|
 .op (some 53) (.mv (.c (.int .i64 0))) <|
 .nil
def Q14_17 : Sts := .op (some 54) (.bin .lss (.t 53) (.t 52)) <|
 .nil
def Q14_18 : Sts := .op (some 55) (.mv (.t 53)) <|
 .op (some 11) (.mv (.t 55)) <|
 .nil
def Q14_19 : Sts := .op (some 56) (.mv (.t 8)) <|
 .op (some 57) (.mv (.t 10)) <|
 .op (some 58) (.mv (.t 11)) <|
 .op (some 59) (.call 68 [(.t 56), (.t 57), (.t 58)]) <|
 .op (some 60) (.mv (.t 59)) <|
 .cnd 60 true (
 .op (some 61) (.mv (.t 9)) <|
 .op (some 62) (.mv (.t 11)) <|
 .op (some 63) (.mv (.t 10)) <|
 .op (some 64) (.call 68 [(.t 61), (.t 62), (.t 63)]) <|
 .nil) 65 (.t 64) <|
 .nil
def Q14_20 : Sts := .op (some 4) (.mv (.c (.int .i64 3))) <|
 .nil
def Q14_21 : Sts := .op (some 66) (.bin .add (.t 53) (.c (.int .i64 1))) <|
 .op (some 53) (.mv (.t 66)) <|
 .nil
def Q14_L22 : RCode := (.seq (.reg Q14_17) (.seq (.cond (.t 54) .skip (.exit 4)) (.seq (.block 5 (.seq (.reg Q14_18) (.seq (.reg Q14_19) (.cond (.t 65) (.seq (.reg Q14_20) .ret) .skip)))) (.reg Q14_21))))
def Q14_22 : Sts := .op (some 67) (.bin .add (.t 48) (.c (.int .i64 1))) <|
 .op (some 48) (.mv (.t 67)) <|
 .nil
def Q14_L23 : RCode := (.seq (.reg Q14_14) (.seq (.cond (.t 49) .skip (.exit 2)) (.seq (.block 3 (.seq (.reg Q14_15) (.seq (.reg Q14_16) (.block 4 (.loop Q14_L22))))) (.reg Q14_22))))
def Q14_23 : Sts := .op (some 68) (.faddr 2 (.t 3)) <|
 .op (some 69) (.loadS (.t 68)) <|
 .op (some 70) (.len (.t 69)) <|
 .op (some 71) (.mv (.c (.int .i64 0))) <|
 .nil
def Q14_24 : Sts := .op (some 72) (.bin .lss (.t 71) (.t 70)) <|
 .nil
def Q14_25 : Sts := .op (some 73) (.iaddrS 1 (.t 69) (.t 71)) <|
 .op (some 74) (.loadS (.t 73)) <|
 .op (some 13) (.mv (.t 74)) <|
 .nil
def Q14_26 : Sts := .op (some 14) (.mv (.c (.int .i64 (-1)))) <|
 .nil
def Q14_27 : Sts := .op (some 75) (.mv (.t 13)) <|
 .op (some 76) (.len (.t 75)) <|
 .op (some 77) (.mv (.c (.int .i64 0))) <|
 .nil
def Q14_28 : Sts := .op (some 78) (.bin .lss (.t 77) (.t 76)) <|
 .nil
def Q14_29 : Sts := .op (some 79) (.iaddrS 1 (.t 75) (.t 77)) <|
 .op (some 80) (.loadI .i64 (.t 79)) <|
 .op (some 16) (.mv (.t 80)) <|
 .nil
def Q14_30 : Sts := .op (some 81) (.mv (.t 0)) <|
 .op (some 82) (.mv (.t 16)) <|
 .op (some 83) (.iaddrS 6 (.t 81) (.t 82)) <|
 .op (some 84) (.loadA 6 (.t 83)) <|
 .op (some 85) (.call 86 [(.t 84)]) <|
 .op (some 86) (.mv (.t 85)) <|
 .cnd 86 true (
 .op (some 87) (.faddr 0 (.t 3)) <|
 .op (some 88) (.loadS (.t 87)) <|
 .op (some 89) (.mv (.t 16)) <|
 .op (some 90) (.iaddrS 1 (.t 88) (.t 89)) <|
 .op (some 91) (.loadI .i64 (.t 90)) <|
 .op (some 92) (.mv (.t 14)) <|
 .op (some 93) (.bin .neq (.t 91) (.t 92)) <|
 .nil) 94 (.t 93) <|
 .nil
def Q14_31 : Sts := .op (some 4) (.mv (.c (.int .i64 4))) <|
 .nil
def Q14_32 : Sts := .op (some 95) (.mv (.t 16)) <|
 .op (some 14) (.mv (.t 95)) <|
 .nil
def Q14_33 : Sts := .op (some 96) (.bin .add (.t 77) (.c (.int .i64 1))) <|
 .op (some 77) (.mv (.t 96)) <|
 .nil
def Q14_L34 : RCode := (.seq (.reg Q14_28) (.seq (.cond (.t 78) .skip (.exit 8)) (.seq (.block 9 (.seq (.reg Q14_29) (.seq (.seq (.reg Q14_30) (.cond (.t 94) (.seq (.reg Q14_31) .ret) .skip)) (.reg Q14_32)))) (.reg Q14_33))))
def Q14_34 : Sts := .op (some 97) (.bin .add (.t 71) (.c (.int .i64 1))) <|
 .op (some 71) (.mv (.t 97)) <|
 .nil
def Q14_L35 : RCode := (.seq (.reg Q14_24) (.seq (.cond (.t 72) .skip (.exit 6)) (.seq (.block 7 (.seq (.reg Q14_25) (.seq (.reg Q14_26) (.seq (.reg Q14_27) (.block 8 (.loop Q14_L34)))))) (.reg Q14_34))))
def Q14_35 : Sts := .op (some 4) (.mv (.c (.int .i64 0))) <|
 .nil
def Q14 : RFun := ⟨98, [0, 1, 3, 4, 5, 6, 7, 8, 9, 10, 11, 13, 14, 16, 21, 22, 23, 47, 48, 52, 53, 69, 70, 71, 75, 76, 77], (.seq (.reg Q14_0) (.seq (.reg Q14_1) (.seq (.seq (.reg Q14_2) (.block 0 (.loop Q14_L8))) (.seq (.seq (.reg Q14_8) (.cond (.t 37) (.seq (.reg Q14_9) .ret) .skip)) (.seq (.any Q14_10) (.seq (.seq (.reg Q14_11) (.cond (.t 45) (.seq (.reg Q14_12) .ret) .skip)) (.seq (.seq (.reg Q14_13) (.block 2 (.loop Q14_L23))) (.seq (.seq (.reg Q14_23) (.block 6 (.loop Q14_L35))) (.seq (.reg Q14_35) .ret))))))))), [.tmp 4]⟩
theorem Q14_ok : compF Tryz.prog [0, 1, 3, 4, 5, 6, 7, 8, 9, 10, 11, 13, 14, 16, 21, 22, 23, 47, 48, 52, 53, 69, 70, 71, 75, 76, 77] [15, 20, 31, 71, 88, 41, 76, 86, 65, 83, 81, 114, 117, 119, 122, 68, 100, 103, 104, 105, 137, 138, 64, 72, 96, 99, 158, 159, 132, 56, 93, 94, 130, 131, 155, 62, 23, 170] 83 = some Q14 := by kernel_rfl

/- (lockless/axiom.Execution).copy -/
def Q3_0 : Sts := .op (some 1) (.box 45 (.t 0)) <|
 .op (some 2) (.alloc 45 [(.slice none 0 0), (.slice none 0 0), (.slice none 0 0), (.slice none 0 0)]) <|
 .nil
def Q3_1 : AT := .q (.op 0 (some 6) (.faddr 0 (.t 1)) <|
 .op 1 (some 7) (.loadS (.t 6)) <|
 .op 3 (some 9) (.faddr 1 (.t 1)) <|
 .op 4 (some 10) (.loadS (.t 9)) <|
 .op 6 (some 12) (.faddr 3 (.t 1)) <|
 .op 7 (some 13) (.loadS (.t 12)) <|
 .nil) <|
 .s 2 (some 8) (.call 113 [(.t 7)]) false (
 .q (.nil) <|
 .s 5 (some 11) (.call 124 [(.t 10)]) false (
 .q (.nil) <|
 .s 8 (some 14) (.call 113 [(.t 13)]) true (
 .q (.op 9 (some 15) (.build [(.slice none 0 0), (.slice none 0 0), (.slice none 0 0), (.slice none 0 0)] [(0, 1, (.t 8)), (1, 1, (.t 11)), (3, 1, (.t 14))]) <|
 .nil) <|
 .s 10 (some 3) (.alloc 45 [(.slice none 0 0), (.slice none 0 0), (.slice none 0 0), (.slice none 0 0)]) false (
 .q (.nil) <|
 .s 11 none (.store 4 (.t 3) (.t 15)) true (
 .q (.nil) <|
 .fin) <|
 .no) <|
 .no) <|
 .s 10 (some 3) (.alloc 45 [(.slice none 0 0), (.slice none 0 0), (.slice none 0 0), (.slice none 0 0)]) false (
 .q (.nil) <|
 .s 8 (some 14) (.call 113 [(.t 13)]) false (
 .q (.op 9 (some 15) (.build [(.slice none 0 0), (.slice none 0 0), (.slice none 0 0), (.slice none 0 0)] [(0, 1, (.t 8)), (1, 1, (.t 11)), (3, 1, (.t 14))]) <|
 .nil) <|
 .s 11 none (.store 4 (.t 3) (.t 15)) true (
 .q (.nil) <|
 .fin) <|
 .no) <|
 .no) <|
 .no) <|
 .s 10 (some 3) (.alloc 45 [(.slice none 0 0), (.slice none 0 0), (.slice none 0 0), (.slice none 0 0)]) false (
 .q (.nil) <|
 .s 5 (some 11) (.call 124 [(.t 10)]) false (
 .q (.nil) <|
 .s 8 (some 14) (.call 113 [(.t 13)]) false (
 .q (.op 9 (some 15) (.build [(.slice none 0 0), (.slice none 0 0), (.slice none 0 0), (.slice none 0 0)] [(0, 1, (.t 8)), (1, 1, (.t 11)), (3, 1, (.t 14))]) <|
 .nil) <|
 .s 11 none (.store 4 (.t 3) (.t 15)) true (
 .q (.nil) <|
 .fin) <|
 .no) <|
 .no) <|
 .no) <|
 .no) <|
 .s 10 (some 3) (.alloc 45 [(.slice none 0 0), (.slice none 0 0), (.slice none 0 0), (.slice none 0 0)]) false (
 .q (.nil) <|
 .s 2 (some 8) (.call 113 [(.t 7)]) false (
 .q (.nil) <|
 .s 5 (some 11) (.call 124 [(.t 10)]) false (
 .q (.nil) <|
 .s 8 (some 14) (.call 113 [(.t 13)]) false (
 .q (.op 9 (some 15) (.build [(.slice none 0 0), (.slice none 0 0), (.slice none 0 0), (.slice none 0 0)] [(0, 1, (.t 8)), (1, 1, (.t 11)), (3, 1, (.t 14))]) <|
 .nil) <|
 .s 11 none (.store 4 (.t 3) (.t 15)) true (
 .q (.nil) <|
 .fin) <|
 .no) <|
 .no) <|
 .no) <|
 .no) <|
 .no
def Q3_2 : Sts := .op (some 16) (.faddr 2 (.t 1)) <|
 .op (some 17) (.loadS (.t 16)) <|
 .op (some 18) (.len (.t 17)) <|
 .op (some 19) (.mv (.c (.int .i64 0))) <|
 .nil
def Q3_3 : Sts := .op (some 20) (.bin .lss (.t 19) (.t 18)) <|
 .nil
def Q3_4 : Sts := .op (some 21) (.iaddrS 1 (.t 17) (.t 19)) <|
 .op (some 22) (.loadS (.t 21)) <|
 .op (some 5) (.mv (.t 22)) <|
 .nil
def Q3_5 : AT := .q (.op 0 (some 23) (.faddr 2 (.t 3)) <|
 .op 1 (some 24) (.loadS (.t 23)) <|
 .op 2 (some 25) (.mv (.t 5)) <|
 .nil) <|
 .s 3 (some 26) (.call 113 [(.t 25)]) false (
 .q (.nil) <|
 .s 4 (some 27) (.buildSl 34 1 [(.slice none 0 0)] [(0, 1, (.t 26))]) false (
 .q (.nil) <|
 .s 5 (some 28) (.append 34 1 24 [(.slice none 0 0)] (.t 24) (.t 27)) true (
 .q (.op 6 (some 29) (.faddr 2 (.t 3)) <|
 .nil) <|
 .s 7 none (.store 1 (.t 29) (.t 28)) true (
 .q (.nil) <|
 .fin) <|
 .no) <|
 .no) <|
 .no) <|
 .no
def Q3_6 : Sts := .op (some 30) (.bin .add (.t 19) (.c (.int .i64 1))) <|
 .op (some 19) (.mv (.t 30)) <|
 .nil
def Q3_L7 : RCode := (.seq (.reg Q3_3) (.seq (.cond (.t 20) .skip (.exit 0)) (.seq (.block 1 (.seq (.reg Q3_4) (.any Q3_5))) (.reg Q3_6))))
def Q3_7 : Sts := .op (some 31) (.loadA 4 (.t 3)) <|
 .op none (.store 4 (.t 2) (.t 31)) <|
 .nil
def Q3 : RFun := ⟨32, [0, 1, 2, 3, 5, 17, 18, 19], (.seq (.reg Q3_0) (.seq (.any Q3_1) (.seq (.seq (.reg Q3_2) (.block 0 (.loop Q3_L7))) (.seq (.reg Q3_7) .ret)))), [.cellA 2 4]⟩
theorem Q3_ok : compF Tryz.prog [0, 1, 2, 3, 5, 17, 18, 19] [15, 20, 31, 71, 88, 41, 76, 86, 65, 83, 81, 114, 117, 119, 122, 68, 100, 103, 104, 105, 137, 138, 64, 72, 96, 99, 158, 159, 132, 56, 93, 94, 130, 131, 155, 62, 23, 170] 84 = some Q3 := by kernel_rfl

/- (lockless/axiom.program).words -/
def Q43_0 : Sts := .op (some 3) (.box 45 (.t 1)) <|
 .op (some 4) (.mv (.c (.slice none 0 0))) <|
 .op (some 5) (.mv (.c (.slice none 0 0))) <|
 .op (some 6) (.mv (.c (.slice none 0 0))) <|
 .nil
def Q43_1 : AT := .q (.op 0 (some 11) (.mv (.t 0)) <|
 .op 1 (some 12) (.len (.t 11)) <|
 .op 3 (some 14) (.mv (.t 0)) <|
 .op 4 (some 15) (.len (.t 14)) <|
 .op 6 (some 17) (.mv (.t 0)) <|
 .op 7 (some 18) (.len (.t 17)) <|
 .nil) <|
 .s 2 (some 13) (.makeSl 3 1 8 [(.int .i64 0)] (.t 12) (.t 12)) false (
 .q (.op 9 (some 4) (.mv (.t 13)) <|
 .nil) <|
 .s 5 (some 16) (.makeSl 3 1 8 [(.int .i64 0)] (.t 15) (.t 15)) false (
 .q (.op 10 (some 5) (.mv (.t 16)) <|
 .nil) <|
 .s 8 (some 19) (.makeSl 4 1 1 [(.bool false)] (.t 18) (.t 18)) false (
 .q (.op 11 (some 6) (.mv (.t 19)) <|
 .nil) <|
 .fin) <|
 .no) <|
 .s 8 (some 19) (.makeSl 4 1 1 [(.bool false)] (.t 18) (.t 18)) false (
 .q (.nil) <|
 .s 5 (some 16) (.makeSl 3 1 8 [(.int .i64 0)] (.t 15) (.t 15)) false (
 .q (.op 10 (some 5) (.mv (.t 16)) <|
 .op 11 (some 6) (.mv (.t 19)) <|
 .nil) <|
 .fin) <|
 .no) <|
 .no) <|
 .s 5 (some 16) (.makeSl 3 1 8 [(.int .i64 0)] (.t 15) (.t 15)) false (
 .q (.nil) <|
 .s 2 (some 13) (.makeSl 3 1 8 [(.int .i64 0)] (.t 12) (.t 12)) false (
 .q (.op 9 (some 4) (.mv (.t 13)) <|
 .op 10 (some 5) (.mv (.t 16)) <|
 .nil) <|
 .s 8 (some 19) (.makeSl 4 1 1 [(.bool false)] (.t 18) (.t 18)) false (
 .q (.op 11 (some 6) (.mv (.t 19)) <|
 .nil) <|
 .fin) <|
 .no) <|
 .s 8 (some 19) (.makeSl 4 1 1 [(.bool false)] (.t 18) (.t 18)) false (
 .q (.nil) <|
 .s 2 (some 13) (.makeSl 3 1 8 [(.int .i64 0)] (.t 12) (.t 12)) false (
 .q (.op 9 (some 4) (.mv (.t 13)) <|
 .op 10 (some 5) (.mv (.t 16)) <|
 .op 11 (some 6) (.mv (.t 19)) <|
 .nil) <|
 .fin) <|
 .no) <|
 .no) <|
 .s 8 (some 19) (.makeSl 4 1 1 [(.bool false)] (.t 18) (.t 18)) false (
 .q (.nil) <|
 .s 2 (some 13) (.makeSl 3 1 8 [(.int .i64 0)] (.t 12) (.t 12)) false (
 .q (.op 9 (some 4) (.mv (.t 13)) <|
 .nil) <|
 .s 5 (some 16) (.makeSl 3 1 8 [(.int .i64 0)] (.t 15) (.t 15)) false (
 .q (.op 10 (some 5) (.mv (.t 16)) <|
 .op 11 (some 6) (.mv (.t 19)) <|
 .nil) <|
 .fin) <|
 .no) <|
 .s 5 (some 16) (.makeSl 3 1 8 [(.int .i64 0)] (.t 15) (.t 15)) false (
 .q (.nil) <|
 .s 2 (some 13) (.makeSl 3 1 8 [(.int .i64 0)] (.t 12) (.t 12)) false (
 .q (.op 9 (some 4) (.mv (.t 13)) <|
 .op 10 (some 5) (.mv (.t 16)) <|
 .op 11 (some 6) (.mv (.t 19)) <|
 .nil) <|
 .fin) <|
 .no) <|
 .no) <|
 .no
def Q43_2 : Sts := .op (some 20) (.mv (.t 0)) <|
 .op (some 21) (.len (.t 20)) <|
 .op (some 22) (.makeSl 4 1 1 [(.bool false)] (.t 21) (.t 21)) <|
 .op (some 7) (.mv (.t 22)) <|
 .nil
def Q43_3 : Sts := .op (some 23) (.mv (.t 0)) <|
 .op (some 24) (.len (.t 23)) <|
 .op (some 25) (.bin .add (.t 24) (.c (.int .i64 1))) <|
 .op (some 26) (.mv (.c (.int .i64 0))) <|
 .nil
def Q43_4 : Sts := .op (some 27) (.bin .lss (.t 26) (.t 25)) <|
 .nil
def Q43_5 : Sts := .op (some 28) (.mv (.t 0)) <|
 .op (some 29) (.len (.t 28)) <|
 .op (some 30) (.mv (.c (.int .i64 0))) <|
 .nil
def Q43_6 : Sts := .op (some 31) (.bin .lss (.t 30) (.t 29)) <|
 .nil
def Q43_7 : Sts := .op (some 32) (.mv (.t 30)) <|
 .op (some 33) (.iaddrS 6 (.t 28) (.t 30)) <|
 .op (some 34) (.loadA 6 (.t 33)) <|
 .op (some 9) (.alloc 121 [(.int .i64 0), (.int .i64 0), (.int .i64 0), (.int .i64 0), (.int .i64 0), (.int .i64 0)]) <|
 .op (some 8) (.mv (.t 32)) <|
 .op none (.store 6 (.t 9) (.t 34)) <|
 .nil
def Q43_8 : Sts := .op (some 35) (.faddr 0 (.t 3)) <|
 .op (some 36) (.loadS (.t 35)) <|
 .op (some 37) (.mv (.t 8)) <|
 .op (some 38) (.iaddrS 1 (.t 36) (.t 37)) <|
 .op (some 39) (.loadI .i64 (.t 38)) <|
 .op (some 10) (.mv (.t 39)) <|
 .nil
def Q43_9 : Sts := .op (some 41) (.loadA 6 (.t 9)) <|
 .op (some 42) (.call 86 [(.t 41)]) <|
 .op (some 43) (.mv (.t 42)) <|
 .cnd 43 true (
 .op (some 44) (.mv (.t 10)) <|
 .op (some 45) (.bin .eql (.t 44) (.c (.int .i64 (-1)))) <|
 .nil) 46 (.t 45) <|
 .op (some 40) (.mv (.t 46)) <|
 .nil
def Q43_10 : Sts := .op (some 47) (.mv (.t 6)) <|
 .op (some 48) (.mv (.t 8)) <|
 .op (some 49) (.iaddrS 1 (.t 47) (.t 48)) <|
 .op none (.store 1 (.t 49) (.c (.bool true))) <|
 .nil
def Q43_11 : Sts := .op (some 51) (.loadA 6 (.t 9)) <|
 .op (some 52) (.call 86 [(.t 51)]) <|
 .op (some 53) (.mv (.t 52)) <|
 .cnd 53 true (
 .op (some 54) (.mv (.t 7)) <|
 .op (some 55) (.mv (.t 10)) <|
 .op (some 56) (.iaddrS 1 (.t 54) (.t 55)) <|
 .op (some 57) (.loadB (.t 56)) <|
 .nil) 58 (.t 57) <|
 .op (some 50) (.mv (.t 58)) <|
 .nil
def Q43_12 : Sts := .op (some 59) (.mv (.t 4)) <|
 .op (some 60) (.mv (.t 8)) <|
 .op (some 61) (.mv (.t 6)) <|
 .op (some 62) (.mv (.t 8)) <|
 .op (some 63) (.mv (.t 5)) <|
 .op (some 64) (.mv (.t 10)) <|
 .op (some 65) (.iaddrS 1 (.t 63) (.t 64)) <|
 .op (some 66) (.loadI .i64 (.t 65)) <|
 .op (some 67) (.iaddrS 1 (.t 59) (.t 60)) <|
 .op none (.store 1 (.t 67) (.t 66)) <|
 .op (some 68) (.iaddrS 1 (.t 61) (.t 62)) <|
 .op none (.store 1 (.t 68) (.c (.bool true))) <|
 .nil
def Q43_13 : Sts := .op (some 69) (.faddr 0 (.t 9)) <|
 .op (some 70) (.faddr 0 (.t 69)) <|
 .op (some 71) (.loadI .i64 (.t 70)) <|
 .nil
def Q43_14 : Sts := .op (some 73) (.bin .eql (.t 71) (.c (.int .i64 1))) <|
 .op (some 72) (.mv (.t 73)) <|
 .nil
def Q43_15 : Sts := .op (some 74) (.mv (.t 5)) <|
 .op (some 75) (.mv (.t 8)) <|
 .op (some 76) (.mv (.t 7)) <|
 .op (some 77) (.mv (.t 8)) <|
 .op (some 78) (.faddr 0 (.t 9)) <|
 .op (some 79) (.faddr 2 (.t 78)) <|
 .op (some 80) (.loadI .i64 (.t 79)) <|
 .op (some 81) (.iaddrS 1 (.t 74) (.t 75)) <|
 .op none (.store 1 (.t 81) (.t 80)) <|
 .op (some 82) (.iaddrS 1 (.t 76) (.t 77)) <|
 .op none (.store 1 (.t 82) (.c (.bool true))) <|
 .nil
def Q43_16 : Sts := .op (some 84) (.bin .eql (.t 71) (.c (.int .i64 2))) <|
 .op (some 83) (.mv (.t 84)) <|
 .nil
def Q43_17 : AT := .q (.op 0 (some 85) (.mv (.t 5)) <|
 .op 1 (some 86) (.mv (.t 8)) <|
 .op 2 (some 87) (.mv (.t 7)) <|
 .op 3 (some 88) (.mv (.t 8)) <|
 .op 4 (some 89) (.mv (.t 4)) <|
 .op 5 (some 90) (.mv (.t 8)) <|
 .op 6 (some 91) (.iaddrS 1 (.t 89) (.t 90)) <|
 .op 7 (some 92) (.loadI .i64 (.t 91)) <|
 .op 8 (some 93) (.faddr 0 (.t 9)) <|
 .op 9 (some 94) (.faddr 2 (.t 93)) <|
 .op 10 (some 95) (.loadI .i64 (.t 94)) <|
 .op 11 (some 96) (.bin .add (.t 92) (.t 95)) <|
 .op 12 (some 97) (.mv (.t 6)) <|
 .op 13 (some 98) (.mv (.t 8)) <|
 .op 14 (some 99) (.iaddrS 1 (.t 97) (.t 98)) <|
 .op 15 (some 100) (.loadB (.t 99)) <|
 .op 16 (some 101) (.iaddrS 1 (.t 85) (.t 86)) <|
 .nil) <|
 .s 17 none (.store 1 (.t 101) (.t 96)) false (
 .q (.op 18 (some 102) (.iaddrS 1 (.t 87) (.t 88)) <|
 .nil) <|
 .s 19 none (.store 1 (.t 102) (.t 100)) true (
 .q (.nil) <|
 .fin) <|
 .no) <|
 .no
def Q43_18 : Sts := .op (some 104) (.bin .eql (.t 71) (.c (.int .i64 3))) <|
 .op (some 103) (.mv (.t 104)) <|
 .nil
def Q43_19 : Sts := .op (some 105) (.bin .eql (.t 71) (.c (.int .i64 4))) <|
 .op (some 103) (.mv (.t 105)) <|
 .nil
def Q43_20 : Sts := .op (some 106) (.mv (.t 5)) <|
 .op (some 107) (.mv (.t 8)) <|
 .op (some 108) (.mv (.t 7)) <|
 .op (some 109) (.mv (.t 8)) <|
 .op (some 110) (.faddr 0 (.t 9)) <|
 .op (some 111) (.faddr 3 (.t 110)) <|
 .op (some 112) (.loadI .i64 (.t 111)) <|
 .op (some 113) (.iaddrS 1 (.t 106) (.t 107)) <|
 .op none (.store 1 (.t 113) (.t 112)) <|
 .op (some 114) (.iaddrS 1 (.t 108) (.t 109)) <|
 .op none (.store 1 (.t 114) (.c (.bool true))) <|
 .nil
def Q43_21 : Sts := .op (some 115) (.bin .add (.t 30) (.c (.int .i64 1))) <|
 .op (some 30) (.mv (.t 115)) <|
 .nil
def Q43_L22 : RCode := (.seq (.reg Q43_6) (.seq (.cond (.t 31) .skip (.exit 2)) (.seq (.block 3 (.seq (.reg Q43_7) (.seq (.seq (.reg Q43_8) (.block 4 (.seq (.reg Q43_9) (.cond (.t 40) (.reg Q43_10) (.seq (.reg Q43_11) (.cond (.t 50) (.reg Q43_12) .skip)))))) (.seq (.reg Q43_13) (.block 5 (.seq (.reg Q43_14) (.cond (.t 72) (.reg Q43_15) (.seq (.reg Q43_16) (.cond (.t 83) (.any Q43_17) (.seq (.seq (.reg Q43_18) (.cond (.t 103) .skip (.reg Q43_19))) (.cond (.t 103) (.reg Q43_20) .skip))))))))))) (.reg Q43_21))))
def Q43_22 : Sts := .op (some 116) (.bin .add (.t 26) (.c (.int .i64 1))) <|
 .op (some 26) (.mv (.t 116)) <|
 .nil
def Q43_L23 : RCode := (.seq (.reg Q43_4) (.seq (.cond (.t 27) .skip (.exit 0)) (.seq (.block 1 (.seq (.reg Q43_5) (.block 2 (.loop Q43_L22)))) (.reg Q43_22))))
def Q43_23 : Sts := .op (some 117) (.mv (.t 4)) <|
 .op (some 118) (.mv (.t 5)) <|
 .op (some 119) (.mv (.t 6)) <|
 .op (some 4) (.mv (.t 117)) <|
 .op (some 5) (.mv (.t 118)) <|
 .op (some 6) (.mv (.t 119)) <|
 .nil
def Q43 : RFun := ⟨120, [0, 1, 3, 4, 5, 6, 7, 8, 9, 10, 25, 26, 28, 29, 30, 71], (.seq (.reg Q43_0) (.seq (.any Q43_1) (.seq (.reg Q43_2) (.seq (.seq (.reg Q43_3) (.block 0 (.loop Q43_L23))) (.seq (.reg Q43_23) .ret))))), [.tmp 4, .tmp 5, .tmp 6]⟩
theorem Q43_ok : compF Tryz.prog [0, 1, 3, 4, 5, 6, 7, 8, 9, 10, 25, 26, 28, 29, 30, 71] [15, 20, 31, 71, 88, 41, 76, 86, 65, 83, 81, 114, 117, 119, 122, 68, 100, 103, 104, 105, 137, 138, 64, 72, 96, 99, 158, 159, 132, 56, 93, 94, 130, 131, 155, 62, 23, 170] 85 = some Q43 := by kernel_rfl

/- (lockless/axiom.event).reads -/
def Q9_0 : Sts := .op (some 1) (.box 121 (.t 0)) <|
 .op (some 2) (.mv (.c (.bool false))) <|
 .nil
def Q9_1 : Sts := .op (some 3) (.faddr 0 (.t 1)) <|
 .op (some 4) (.faddr 0 (.t 3)) <|
 .op (some 5) (.loadI .i64 (.t 4)) <|
 .op (some 6) (.bin .neq (.t 5) (.c (.int .i64 1))) <|
 .op (some 7) (.mv (.t 6)) <|
 .cnd 7 true (
 .op (some 8) (.faddr 0 (.t 1)) <|
 .op (some 9) (.faddr 0 (.t 8)) <|
 .op (some 10) (.loadI .i64 (.t 9)) <|
 .op (some 11) (.bin .neq (.t 10) (.c (.int .i64 5))) <|
 .nil) 12 (.t 11) <|
 .op (some 2) (.mv (.t 12)) <|
 .nil
def Q9 : RFun := ⟨13, [0, 1, 2], (.seq (.reg Q9_0) (.seq (.reg Q9_1) .ret)), [.tmp 2]⟩
theorem Q9_ok : compF Tryz.prog [0, 1, 2] [15, 20, 31, 71, 88, 41, 76, 86, 65, 83, 81, 114, 117, 119, 122, 68, 100, 103, 104, 105, 137, 138, 64, 72, 96, 99, 158, 159, 132, 56, 93, 94, 130, 131, 155, 62, 23, 170] 86 = some Q9 := by kernel_rfl

/- slices.Compare[[]int,int] -/
def Q80_0 : Sts := .op (some 4) (.mv (.c (.int .i64 0))) <|
 .nil
def Q80_1 : Sts := .op (some 9) (.mv (.t 0)) <|
 .op (some 10) (.len (.t 9)) <|
 .op (some 11) (.mv (.c (.int .i64 0))) <|
 .nil
def Q80_2 : Sts := .op (some 12) (.bin .lss (.t 11) (.t 10)) <|
 .nil
def Q80_3 : Sts := .op (some 13) (.mv (.t 11)) <|
 .op (some 14) (.iaddrS 1 (.t 9) (.t 11)) <|
 .op (some 15) (.loadI .i64 (.t 14)) <|
 .op (some 5) (.mv (.t 13)) <|
 .op (some 6) (.mv (.t 15)) <|
 .nil
def Q80_4 : Sts := .op (some 16) (.mv (.t 5)) <|
 .op (some 17) (.mv (.t 1)) <|
 .op (some 18) (.len (.t 17)) <|
 .op (some 19) (.bin .geq (.t 16) (.t 18)) <|
 .nil
def Q80_5 : Sts := .op (some 4) (.mv (.c (.int .i64 1))) <|
 .nil
def Q80_6 : Sts := .op (some 20) (.mv (.t 1)) <|
 .op (some 21) (.mv (.t 5)) <|
 .op (some 22) (.iaddrS 1 (.t 20) (.t 21)) <|
 .op (some 23) (.loadI .i64 (.t 22)) <|
 .op (some 7) (.mv (.t 23)) <|
 .nil
def Q80_7 : Sts := .op (some 24) (.mv (.t 6)) <|
 .op (some 25) (.mv (.t 7)) <|
 .op (some 26) (.call 127 [(.t 24), (.t 25)]) <|
 .op (some 8) (.mv (.t 26)) <|
 .nil
def Q80_8 : Sts := .op (some 27) (.mv (.t 8)) <|
 .op (some 28) (.bin .neq (.t 27) (.c (.int .i64 0))) <|
 .nil
def Q80_9 : Sts := .op (some 29) (.mv (.t 8)) <|
 .op (some 4) (.mv (.t 29)) <|
 .nil
def Q80_10 : Sts := .op (some 30) (.bin .add (.t 11) (.c (.int .i64 1))) <|
 .op (some 11) (.mv (.t 30)) <|
 .nil
def Q80_L11 : RCode := (.seq (.reg Q80_2) (.seq (.cond (.t 12) .skip (.exit 0)) (.seq (.block 1 (.seq (.reg Q80_3) (.seq (.seq (.reg Q80_4) (.cond (.t 19) (.seq (.reg Q80_5) .ret) .skip)) (.seq (.reg Q80_6) (.seq (.reg Q80_7) (.seq (.reg Q80_8) (.cond (.t 28) (.seq (.reg Q80_9) .ret) .skip))))))) (.reg Q80_10))))
def Q80_11 : Sts := .op (some 31) (.mv (.t 0)) <|
 .op (some 32) (.len (.t 31)) <|
 .op (some 33) (.mv (.t 1)) <|
 .op (some 34) (.len (.t 33)) <|
 .op (some 35) (.bin .lss (.t 32) (.t 34)) <|
 .nil
def Q80_12 : Sts := .op (some 4) (.mv (.c (.int .i64 (-1)))) <|
 .nil
def Q80_13 : Sts := .op (some 4) (.mv (.c (.int .i64 0))) <|
 .nil
def Q80 : RFun := ⟨36, [0, 1, 4, 5, 6, 7, 8, 9, 10, 11], (.seq (.reg Q80_0) (.seq (.seq (.reg Q80_1) (.block 0 (.loop Q80_L11))) (.seq (.seq (.reg Q80_11) (.cond (.t 35) (.seq (.reg Q80_12) .ret) .skip)) (.seq (.reg Q80_13) .ret)))), [.tmp 4]⟩
theorem Q80_ok : compF Tryz.prog [0, 1, 4, 5, 6, 7, 8, 9, 10, 11] [15, 20, 31, 71, 88, 41, 76, 86, 65, 83, 81, 114, 117, 119, 122, 68, 100, 103, 104, 105, 137, 138, 64, 72, 96, 99, 158, 159, 132, 56, 93, 94, 130, 131, 155, 62, 23, 170] 88 = some Q80 := by kernel_rfl

/- slices.CompactFunc[[][]int,[]int] -/
def Q79_0 : Sts := .op (some 4) (.mv (.c (.slice none 0 0))) <|
 .nil
def Q79_1 : Sts := .op (some 8) (.mv (.t 0)) <|
 .op (some 9) (.len (.t 8)) <|
 .op (some 10) (.bin .lss (.t 9) (.c (.int .i64 2))) <|
 .nil
def Q79_2 : Sts := .op (some 11) (.mv (.t 0)) <|
 .op (some 4) (.mv (.t 11)) <|
 .nil
def Q79_3 : Sts := .op (some 5) (.mv (.c (.int .i64 1))) <|
 .nil
def Q79_4 : Sts := .op (some 12) (.mv (.t 5)) <|
 .op (some 13) (.mv (.t 0)) <|
 .op (some 14) (.len (.t 13)) <|
 .op (some 15) (.bin .lss (.t 12) (.t 14)) <|
 .nil
def Q79_5 : AT := .q (.op 0 (some 18) (.mv (.t 1)) <|
 .op 1 (some 19) (.mv (.t 0)) <|
 .op 2 (some 20) (.mv (.t 5)) <|
 .op 3 (some 21) (.iaddrS 1 (.t 19) (.t 20)) <|
 .op 4 (some 22) (.loadS (.t 21)) <|
 .op 5 (some 23) (.mv (.t 0)) <|
 .op 6 (some 24) (.mv (.t 5)) <|
 .op 7 (some 25) (.bin .sub (.t 24) (.c (.int .i64 1))) <|
 .op 8 (some 26) (.iaddrS 1 (.t 23) (.t 25)) <|
 .op 9 (some 27) (.loadS (.t 26)) <|
 .nil) <|
 .s 10 (some 28) (.callv (.t 18) [(.t 22), (.t 27)]) true (
 .q (.nil) <|
 .fin) <|
 .no
def Q79_6 : Sts := .op (some 29) (.mv (.t 0)) <|
 .op (some 30) (.mv (.t 5)) <|
 .op (some 31) (.slS 1 (.t 29) (some (.t 30)) none none) <|
 .op (some 6) (.mv (.t 31)) <|
 .nil
def Q79_7 : Sts := .op (some 7) (.mv (.c (.int .i64 1))) <|
 .nil
def Q79_8 : Sts := .op (some 32) (.mv (.t 7)) <|
 .op (some 33) (.mv (.t 6)) <|
 .op (some 34) (.len (.t 33)) <|
 .op (some 35) (.bin .lss (.t 32) (.t 34)) <|
 .nil
def Q79_9 : AT := .q (.op 0 (some 38) (.mv (.t 1)) <|
 .op 1 (some 39) (.mv (.t 6)) <|
 .op 2 (some 40) (.mv (.t 7)) <|
 .op 3 (some 41) (.iaddrS 1 (.t 39) (.t 40)) <|
 .op 4 (some 42) (.loadS (.t 41)) <|
 .op 5 (some 43) (.mv (.t 6)) <|
 .op 6 (some 44) (.mv (.t 7)) <|
 .op 7 (some 45) (.bin .sub (.t 44) (.c (.int .i64 1))) <|
 .op 8 (some 46) (.iaddrS 1 (.t 43) (.t 45)) <|
 .op 9 (some 47) (.loadS (.t 46)) <|
 .nil) <|
 .s 10 (some 48) (.callv (.t 38) [(.t 42), (.t 47)]) true (
 .q (.op 11 (some 49) (.notb (.t 48)) <|
 .nil) <|
 .fin) <|
 .no
def Q79_10 : Sts := .op (some 50) (.mv (.t 0)) <|
 .op (some 51) (.mv (.t 5)) <|
 .op (some 52) (.mv (.t 6)) <|
 .op (some 53) (.mv (.t 7)) <|
 .op (some 54) (.iaddrS 1 (.t 52) (.t 53)) <|
 .op (some 55) (.loadS (.t 54)) <|
 .op (some 56) (.iaddrS 1 (.t 50) (.t 51)) <|
 .op none (.store 1 (.t 56) (.t 55)) <|
 .nil
def Q79_11 : Sts := .op (some 57) (.mv (.t 5)) <|
 .op (some 58) (.bin .add (.t 57) (.c (.int .i64 1))) <|
 .op (some 5) (.mv (.t 58)) <|
 .nil
def Q79_12 : Sts := .op (some 36) (.mv (.t 7)) <|
 .op (some 37) (.bin .add (.t 36) (.c (.int .i64 1))) <|
 .op (some 7) (.mv (.t 37)) <|
 .nil
def Q79_L13 : RCode := (.seq (.seq (.reg Q79_8) (.cond (.t 35) .skip (.exit 2))) (.seq (.block 3 (.seq (.any Q79_9) (.cond (.t 49) (.seq (.reg Q79_10) (.reg Q79_11)) .skip))) (.reg Q79_12)))
def Q79_13 : Sts := .op (some 59) (.mv (.t 0)) <|
 .op (some 60) (.mv (.t 5)) <|
 .op (some 61) (.slS 1 (.t 59) (some (.t 60)) none none) <|
 .op none (.clearS (.slice none 0 0) (.t 61)) <|
 .nil
def Q79_14 : Sts := .op (some 62) (.mv (.t 0)) <|
 .op (some 63) (.mv (.t 5)) <|
 .op (some 64) (.slS 1 (.t 62) none (some (.t 63)) none) <|
 .op (some 4) (.mv (.t 64)) <|
 .nil
def Q79_15 : Sts := .op (some 16) (.mv (.t 5)) <|
 .op (some 17) (.bin .add (.t 16) (.c (.int .i64 1))) <|
 .op (some 5) (.mv (.t 17)) <|
 .nil
def Q79_L16 : RCode := (.seq (.seq (.reg Q79_4) (.cond (.t 15) .skip (.exit 0))) (.seq (.block 1 (.seq (.any Q79_5) (.cond (.t 28) (.seq (.reg Q79_6) (.seq (.seq (.reg Q79_7) (.block 2 (.loop Q79_L13))) (.seq (.reg Q79_13) (.seq (.reg Q79_14) .ret)))) .skip))) (.reg Q79_15)))
def Q79_16 : Sts := .op (some 65) (.mv (.t 0)) <|
 .op (some 4) (.mv (.t 65)) <|
 .nil
def Q79 : RFun := ⟨66, [0, 1, 4, 5, 6, 7], (.seq (.reg Q79_0) (.seq (.seq (.reg Q79_1) (.cond (.t 10) (.seq (.reg Q79_2) .ret) .skip)) (.seq (.seq (.reg Q79_3) (.block 0 (.loop Q79_L16))) (.seq (.reg Q79_16) .ret)))), [.tmp 4]⟩
theorem Q79_ok : compF Tryz.prog [0, 1, 4, 5, 6, 7] [15, 20, 31, 71, 88, 41, 76, 86, 65, 83, 81, 114, 117, 119, 122, 68, 100, 103, 104, 105, 137, 138, 64, 72, 96, 99, 158, 159, 132, 56, 93, 94, 130, 131, 155, 62, 23, 170] 89 = some Q79 := by kernel_rfl

/- lockless/order.isOrder -/
def Q72_0 : Sts := .op (some 2) (.mv (.c (.bool false))) <|
 .nil
def Q72_1 : Sts := .op (some 3) (.mv (.t 0)) <|
 .op (some 4) (.bin .geq (.t 3) (.c (.int .i64 0))) <|
 .op (some 5) (.mv (.t 4)) <|
 .cnd 5 true (
 .op (some 6) (.mv (.t 0)) <|
 .op (some 7) (.bin .lss (.t 6) (.c (.int .i64 5))) <|
 .nil) 8 (.t 7) <|
 .op (some 2) (.mv (.t 8)) <|
 .nil
def Q72 : RFun := ⟨9, [0, 2], (.seq (.reg Q72_0) (.seq (.reg Q72_1) .ret)), [.tmp 2]⟩
theorem Q72_ok : compF Tryz.prog [0, 2] [15, 20, 31, 71, 88, 41, 76, 86, 65, 83, 81, 114, 117, 119, 122, 68, 100, 103, 104, 105, 137, 138, 64, 72, 96, 99, 158, 159, 132, 56, 93, 94, 130, 131, 155, 62, 23, 170] 96 = some Q72 := by kernel_rfl

/- slices.Max[[]int,int] -/
def Q87_0 : Sts := .op (some 2) (.mv (.c (.int .i64 0))) <|
 .nil
def Q87_1 : Sts := .op (some 5) (.mv (.t 0)) <|
 .op (some 6) (.len (.t 5)) <|
 .op (some 7) (.bin .lss (.t 6) (.c (.int .i64 1))) <|
 .nil
def Q87_2 : Sts := .op (some 8) (.bad) <|
 .op none (.bad) <|
 .nil
def Q87_3 : Sts := .op (some 9) (.mv (.t 0)) <|
 .op (some 10) (.iaddrS 1 (.t 9) (.c (.int .i64 0))) <|
 .op (some 11) (.loadI .i64 (.t 10)) <|
 .op (some 3) (.mv (.t 11)) <|
 .nil
def Q87_4 : Sts := .op (some 4) (.mv (.c (.int .i64 1))) <|
 .nil
def Q87_5 : Sts := .op (some 12) (.mv (.t 4)) <|
 .op (some 13) (.mv (.t 0)) <|
 .op (some 14) (.len (.t 13)) <|
 .op (some 15) (.bin .lss (.t 12) (.t 14)) <|
 .nil
def Q87_6 : Sts := .op (some 18) (.mv (.t 3)) <|
 .op (some 19) (.mv (.t 0)) <|
 .op (some 20) (.mv (.t 4)) <|
 .op (some 21) (.iaddrS 1 (.t 19) (.t 20)) <|
 .op (some 22) (.loadI .i64 (.t 21)) <|
 .op (some 23) (.maxi (.t 18) (.t 22)) <|
 .op (some 3) (.mv (.t 23)) <|
 .nil
def Q87_7 : Sts := .op (some 16) (.mv (.t 4)) <|
 .op (some 17) (.bin .add (.t 16) (.c (.int .i64 1))) <|
 .op (some 4) (.mv (.t 17)) <|
 .nil
def Q87_L8 : RCode := (.seq (.seq (.reg Q87_5) (.cond (.t 15) .skip (.exit 0))) (.seq (.block 1 (.reg Q87_6)) (.reg Q87_7)))
def Q87_8 : Sts := .op (some 24) (.mv (.t 3)) <|
 .op (some 2) (.mv (.t 24)) <|
 .nil
def Q87 : RFun := ⟨25, [0, 2, 3, 4], (.seq (.reg Q87_0) (.seq (.seq (.reg Q87_1) (.cond (.t 7) (.reg Q87_2) .skip)) (.seq (.reg Q87_3) (.seq (.seq (.reg Q87_4) (.block 0 (.loop Q87_L8))) (.seq (.reg Q87_8) .ret))))), [.tmp 2]⟩
theorem Q87_ok : compF Tryz.prog [0, 2, 3, 4] [15, 20, 31, 71, 88, 41, 76, 86, 65, 83, 81, 114, 117, 119, 122, 68, 100, 103, 104, 105, 137, 138, 64, 72, 96, 99, 158, 159, 132, 56, 93, 94, 130, 131, 155, 62, 23, 170] 98 = some Q87 := by kernel_rfl

/- lockless/order.may -/
def Q73_0 : Sts := .op (some 4) (.mv (.c (.bool false))) <|
 .nil
def Q73_1 : Sts := .op (some 5) (.mv (.t 0)) <|
 .nil
def Q73_2 : Sts := .op (some 7) (.bin .eql (.t 5) (.c (.int .i64 0))) <|
 .op (some 6) (.mv (.t 7)) <|
 .nil
def Q73_3 : Sts := .op (some 8) (.mv (.t 1)) <|
 .op (some 9) (.bin .neq (.t 8) (.c (.int .i64 2))) <|
 .op (some 10) (.mv (.t 9)) <|
 .cnd 10 true (
 .op (some 11) (.mv (.t 1)) <|
 .op (some 12) (.bin .neq (.t 11) (.c (.int .i64 3))) <|
 .nil) 13 (.t 12) <|
 .op (some 4) (.mv (.t 13)) <|
 .nil
def Q73_4 : Sts := .op (some 15) (.bin .eql (.t 5) (.c (.int .i64 1))) <|
 .op (some 14) (.mv (.t 15)) <|
 .nil
def Q73_5 : Sts := .op (some 16) (.mv (.t 1)) <|
 .op (some 17) (.bin .neq (.t 16) (.c (.int .i64 1))) <|
 .op (some 18) (.mv (.t 17)) <|
 .cnd 18 true (
 .op (some 19) (.mv (.t 1)) <|
 .op (some 20) (.bin .neq (.t 19) (.c (.int .i64 3))) <|
 .nil) 21 (.t 20) <|
 .op (some 4) (.mv (.t 21)) <|
 .nil
def Q73_6 : Sts := .op (some 23) (.bin .eql (.t 5) (.c (.int .i64 5))) <|
 .op (some 22) (.mv (.t 23)) <|
 .nil
def Q73_7 : Sts := .op (some 24) (.mv (.t 1)) <|
 .op (some 25) (.bin .neq (.t 24) (.c (.int .i64 0))) <|
 .op (some 4) (.mv (.t 25)) <|
 .nil
def Q73_8 : Sts := .op (some 4) (.mv (.c (.bool true))) <|
 .nil
def Q73 : RFun := ⟨26, [0, 1, 4, 5], (.seq (.reg Q73_0) (.seq (.seq (.reg Q73_1) (.block 0 (.seq (.reg Q73_2) (.cond (.t 6) (.seq (.reg Q73_3) .ret) (.seq (.reg Q73_4) (.cond (.t 14) (.seq (.reg Q73_5) .ret) (.seq (.reg Q73_6) (.cond (.t 22) (.seq (.reg Q73_7) .ret) .skip)))))))) (.seq (.reg Q73_8) .ret))), [.tmp 4]⟩
theorem Q73_ok : compF Tryz.prog [0, 1, 4, 5] [15, 20, 31, 71, 88, 41, 76, 86, 65, 83, 81, 114, 117, 119, 122, 68, 100, 103, 104, 105, 137, 138, 64, 72, 96, 99, 158, 159, 132, 56, 93, 94, 130, 131, 155, 62, 23, 170] 99 = some Q73 := by kernel_rfl

/- lockless/litmus.digit -/
def Q57_0 : Sts := .op (some 2) (.mv (.c (.bool false))) <|
 .nil
def Q57_1 : Sts := .op (some 3) (.mv (.t 0)) <|
 .op (some 4) (.bin .geq (.t 3) (.c (.int .i64 0))) <|
 .op (some 5) (.mv (.t 4)) <|
 .cnd 5 true (
 .op (some 6) (.mv (.t 0)) <|
 .op (some 7) (.bin .leq (.t 6) (.c (.int .i64 9))) <|
 .nil) 8 (.t 7) <|
 .op (some 2) (.mv (.t 8)) <|
 .nil
def Q57 : RFun := ⟨9, [0, 2], (.seq (.reg Q57_0) (.seq (.reg Q57_1) .ret)), [.tmp 2]⟩
theorem Q57_ok : compF Tryz.prog [0, 2] [15, 20, 31, 71, 88, 41, 76, 86, 65, 83, 81, 114, 117, 119, 122, 68, 100, 103, 104, 105, 137, 138, 64, 72, 96, 99, 158, 159, 132, 56, 93, 94, 130, 131, 155, 62, 23, 170] 100 = some Q57 := by kernel_rfl

/- (lockless/axiom.program).fit -/
def Q25_0 : Sts := .op (some 2) (.box 74 (.t 0)) <|
 .op (some 3) (.box 45 (.t 1)) <|
 .op (some 4) (.mv (.c (.bool false))) <|
 .nil
def Q25_1 : Sts := .op (some 14) (.faddr 0 (.t 3)) <|
 .op (some 15) (.loadS (.t 14)) <|
 .op (some 16) (.len (.t 15)) <|
 .op (some 17) (.loadS (.t 2)) <|
 .op (some 18) (.len (.t 17)) <|
 .op (some 19) (.bin .neq (.t 16) (.t 18)) <|
 .op (some 20) (.mv (.t 19)) <|
 .cnd 20 false (
 .op (some 21) (.faddr 1 (.t 3)) <|
 .op (some 22) (.loadS (.t 21)) <|
 .op (some 23) (.len (.t 22)) <|
 .op (some 24) (.loadS (.t 2)) <|
 .op (some 25) (.len (.t 24)) <|
 .op (some 26) (.bin .neq (.t 23) (.t 25)) <|
 .nil) 27 (.t 26) <|
 .op (some 28) (.mv (.t 27)) <|
 .cnd 28 false (
 .op (some 29) (.faddr 2 (.t 3)) <|
 .op (some 30) (.loadS (.t 29)) <|
 .op (some 31) (.len (.t 30)) <|
 .op (some 32) (.bin .neq (.t 31) (.c (.int .i64 3))) <|
 .nil) 33 (.t 32) <|
 .nil
def Q25_2 : Sts := .op (some 4) (.mv (.c (.bool false))) <|
 .nil
def Q25_3 : Sts := .op (some 34) (.loadS (.t 2)) <|
 .op (some 35) (.len (.t 34)) <|
 .op (some 36) (.mv (.c (.int .i64 0))) <|
 .nil
def Q25_4 : Sts := .op (some 37) (.bin .lss (.t 36) (.t 35)) <|
 .nil
def Q25_5 : Sts := .op (some 38) (.mv (.t 36)) <|
 .op (some 5) (.mv (.t 38)) <|
 .nil
def Q25_6 : Sts := .op (some 39) (.loadS (.t 2)) <|
 .op (some 40) (.loadA 4 (.t 3)) <|
 .op (some 41) (.mv (.t 5)) <|
 .op (some 42) (.call 133 [(.t 39), (.t 40), (.t 41)]) <|
 .op (some 43) (.notb (.t 42)) <|
 .nil
def Q25_7 : Sts := .op (some 4) (.mv (.c (.bool false))) <|
 .nil
def Q25_8 : Sts := .op (some 44) (.bin .add (.t 36) (.c (.int .i64 1))) <|
 .op (some 36) (.mv (.t 44)) <|
 .nil
def Q25_L9 : RCode := (.seq (.reg Q25_4) (.seq (.cond (.t 37) .skip (.exit 0)) (.seq (.block 1 (.seq (.reg Q25_5) (.seq (.reg Q25_6) (.cond (.t 43) (.seq (.reg Q25_7) .ret) .skip)))) (.reg Q25_8))))
def Q25_9 : Sts := .op (some 46) (.loadS (.t 2)) <|
 .op (some 47) (.loadA 4 (.t 3)) <|
 .op (some 48) (.call 85 [(.t 46), (.t 47)]) <|
 .op (some 45) (.mv (.t 48)) <|
 .op (some 49) (.extract 0 (.t 45)) <|
 .op (some 50) (.extract 1 (.t 45)) <|
 .op (some 51) (.extract 2 (.t 45)) <|
 .op (some 6) (.mv (.t 49)) <|
 .op (some 7) (.mv (.t 50)) <|
 .op (some 8) (.mv (.t 51)) <|
 .nil
def Q25_10 : Sts := .op (some 52) (.loadS (.t 2)) <|
 .op (some 53) (.len (.t 52)) <|
 .op (some 54) (.mv (.c (.int .i64 0))) <|
 .nil
def Q25_11 : Sts := .op (some 55) (.bin .lss (.t 54) (.t 53)) <|
 .nil
def Q25_12 : Sts := .op (some 56) (.mv (.t 54)) <|
 .op (some 57) (.iaddrS 6 (.t 52) (.t 54)) <|
 .op (some 58) (.loadA 6 (.t 57)) <|
 .op (some 10) (.alloc 121 [(.int .i64 0), (.int .i64 0), (.int .i64 0), (.int .i64 0), (.int .i64 0), (.int .i64 0)]) <|
 .op (some 9) (.mv (.t 56)) <|
 .op none (.store 6 (.t 10) (.t 58)) <|
 .nil
def Q25_13 : Sts := .op (some 11) (.mv (.c (.bool true))) <|
 .nil
def Q25_14 : Sts := .op (some 59) (.faddr 0 (.t 10)) <|
 .op (some 60) (.faddr 0 (.t 59)) <|
 .op (some 61) (.loadI .i64 (.t 60)) <|
 .nil
def Q25_15 : Sts := .op (some 63) (.bin .eql (.t 61) (.c (.int .i64 1))) <|
 .op (some 62) (.mv (.t 63)) <|
 .nil
def Q25_16 : Sts := .op (some 64) (.bin .eql (.t 61) (.c (.int .i64 2))) <|
 .op (some 62) (.mv (.t 64)) <|
 .nil
def Q25_17 : Sts := .op (some 65) (.faddr 1 (.t 3)) <|
 .op (some 66) (.loadS (.t 65)) <|
 .op (some 67) (.mv (.t 9)) <|
 .op (some 68) (.iaddrS 1 (.t 66) (.t 67)) <|
 .op (some 69) (.loadB (.t 68)) <|
 .op (some 11) (.mv (.t 69)) <|
 .nil
def Q25_18 : Sts := .op (some 71) (.bin .eql (.t 61) (.c (.int .i64 0))) <|
 .op (some 70) (.mv (.t 71)) <|
 .nil
def Q25_19 : Sts := .op (some 72) (.bin .eql (.t 61) (.c (.int .i64 5))) <|
 .op (some 70) (.mv (.t 72)) <|
 .nil
def Q25_20 : Sts := .op (some 73) (.faddr 1 (.t 3)) <|
 .op (some 74) (.loadS (.t 73)) <|
 .op (some 75) (.mv (.t 9)) <|
 .op (some 76) (.iaddrS 1 (.t 74) (.t 75)) <|
 .op (some 77) (.loadB (.t 76)) <|
 .op (some 78) (.notb (.t 77)) <|
 .op (some 11) (.mv (.t 78)) <|
 .nil
def Q25_21 : Sts := .op (some 80) (.bin .eql (.t 61) (.c (.int .i64 3))) <|
 .op (some 79) (.mv (.t 80)) <|
 .nil
def Q25_22 : AT := .q (.op 0 (some 81) (.mv (.t 8)) <|
 .op 1 (some 82) (.mv (.t 9)) <|
 .op 2 (some 83) (.iaddrS 1 (.t 81) (.t 82)) <|
 .op 3 (some 84) (.loadB (.t 83)) <|
 .op 4 (some 85) (.notb (.t 84)) <|
 .op 5 (some 86) (.mv (.t 85)) <|
 .g 86 false (
 .op 6 (some 87) (.faddr 1 (.t 3)) <|
 .op 7 (some 88) (.loadS (.t 87)) <|
 .op 8 (some 89) (.mv (.t 9)) <|
 .op 9 (some 90) (.iaddrS 1 (.t 88) (.t 89)) <|
 .op 10 (some 91) (.loadB (.t 90)) <|
 .op 11 (some 92) (.mv (.t 6)) <|
 .op 12 (some 93) (.mv (.t 9)) <|
 .op 13 (some 94) (.iaddrS 1 (.t 92) (.t 93)) <|
 .op 14 (some 95) (.loadI .i64 (.t 94)) <|
 .op 15 (some 96) (.faddr 0 (.t 10)) <|
 .op 16 (some 97) (.faddr 2 (.t 96)) <|
 .op 17 (some 98) (.loadI .i64 (.t 97)) <|
 .op 18 (some 99) (.bin .eql (.t 95) (.t 98)) <|
 .op 19 (some 100) (.eqb false (.t 91) (.t 99)) <|
 .nil) 20 101 (.t 100) <|
 .op 21 (some 11) (.mv (.t 101)) <|
 .nil) <|
 .fin
def Q25_23 : Sts := .op (some 103) (.bin .eql (.t 61) (.c (.int .i64 4))) <|
 .op (some 102) (.mv (.t 103)) <|
 .nil
def Q25_24 : AT := .q (.op 0 (some 104) (.mv (.t 8)) <|
 .op 1 (some 105) (.mv (.t 9)) <|
 .op 2 (some 106) (.iaddrS 1 (.t 104) (.t 105)) <|
 .op 3 (some 107) (.loadB (.t 106)) <|
 .op 4 (some 108) (.notb (.t 107)) <|
 .op 5 (some 109) (.mv (.t 108)) <|
 .g 109 false (
 .op 6 (some 110) (.faddr 1 (.t 3)) <|
 .op 7 (some 111) (.loadS (.t 110)) <|
 .op 8 (some 112) (.mv (.t 9)) <|
 .op 9 (some 113) (.iaddrS 1 (.t 111) (.t 112)) <|
 .op 10 (some 114) (.loadB (.t 113)) <|
 .op 11 (some 115) (.notb (.t 114)) <|
 .nil) 12 116 (.t 115) <|
 .op 13 (some 117) (.mv (.t 116)) <|
 .g 117 false (
 .op 14 (some 118) (.mv (.t 6)) <|
 .op 15 (some 119) (.mv (.t 9)) <|
 .op 16 (some 120) (.iaddrS 1 (.t 118) (.t 119)) <|
 .op 17 (some 121) (.loadI .i64 (.t 120)) <|
 .op 18 (some 122) (.faddr 0 (.t 10)) <|
 .op 19 (some 123) (.faddr 2 (.t 122)) <|
 .op 20 (some 124) (.loadI .i64 (.t 123)) <|
 .op 21 (some 125) (.bin .eql (.t 121) (.t 124)) <|
 .nil) 22 126 (.t 125) <|
 .op 23 (some 11) (.mv (.t 126)) <|
 .nil) <|
 .fin
def Q25_25 : Sts := .op (some 127) (.mv (.t 11)) <|
 .op (some 128) (.notb (.t 127)) <|
 .nil
def Q25_26 : Sts := .op (some 4) (.mv (.c (.bool false))) <|
 .nil
def Q25_27 : Sts := .op (some 129) (.bin .add (.t 54) (.c (.int .i64 1))) <|
 .op (some 54) (.mv (.t 129)) <|
 .nil
def Q25_L28 : RCode := (.seq (.reg Q25_11) (.seq (.cond (.t 55) .skip (.exit 2)) (.seq (.block 3 (.seq (.reg Q25_12) (.seq (.reg Q25_13) (.seq (.seq (.reg Q25_14) (.block 4 (.seq (.seq (.reg Q25_15) (.cond (.t 62) .skip (.reg Q25_16))) (.cond (.t 62) (.reg Q25_17) (.seq (.seq (.reg Q25_18) (.cond (.t 70) .skip (.reg Q25_19))) (.cond (.t 70) (.reg Q25_20) (.seq (.reg Q25_21) (.cond (.t 79) (.any Q25_22) (.seq (.reg Q25_23) (.cond (.t 102) (.any Q25_24) .skip)))))))))) (.seq (.reg Q25_25) (.cond (.t 128) (.seq (.reg Q25_26) .ret) .skip)))))) (.reg Q25_27))))
def Q25_28 : Sts := .op (some 130) (.faddr 2 (.t 3)) <|
 .op (some 131) (.loadS (.t 130)) <|
 .op (some 132) (.len (.t 131)) <|
 .op (some 133) (.mv (.c (.int .i64 0))) <|
 .nil
def Q25_29 : Sts := .op (some 134) (.bin .lss (.t 133) (.t 132)) <|
 .nil
def Q25_30 : Sts := .op (some 135) (.mv (.t 133)) <|
 .op (some 136) (.iaddrS 1 (.t 131) (.t 133)) <|
 .op (some 137) (.loadS (.t 136)) <|
 .op (some 12) (.mv (.t 135)) <|
 .op (some 13) (.mv (.t 137)) <|
 .nil
def Q25_31 : Sts := .op (some 138) (.mv (.t 13)) <|
 .op (some 139) (.loadS (.t 2)) <|
 .op (some 140) (.faddr 1 (.t 3)) <|
 .op (some 141) (.loadS (.t 140)) <|
 .op (some 142) (.mv (.t 12)) <|
 .op (some 143) (.call 110 [(.t 139), (.t 141), (.t 142)]) <|
 .op (some 144) (.call 134 [(.t 138), (.t 143)]) <|
 .op (some 145) (.notb (.t 144)) <|
 .nil
def Q25_32 : Sts := .op (some 4) (.mv (.c (.bool false))) <|
 .nil
def Q25_33 : Sts := .op (some 146) (.bin .add (.t 133) (.c (.int .i64 1))) <|
 .op (some 133) (.mv (.t 146)) <|
 .nil
def Q25_L34 : RCode := (.seq (.reg Q25_29) (.seq (.cond (.t 134) .skip (.exit 5)) (.seq (.block 6 (.seq (.reg Q25_30) (.seq (.reg Q25_31) (.cond (.t 145) (.seq (.reg Q25_32) .ret) .skip)))) (.reg Q25_33))))
def Q25_34 : AT := .q (.op 0 (some 147) (.faddr 3 (.t 3)) <|
 .op 1 (some 148) (.loadS (.t 147)) <|
 .op 2 (some 149) (.loadS (.t 2)) <|
 .op 3 (some 150) (.mkfn 135 [] [(.t 2)]) <|
 .nil) <|
 .s 4 (some 151) (.call 74 [(.t 149), (.t 150)]) false (
 .q (.nil) <|
 .s 5 (some 152) (.call 134 [(.t 148), (.t 151)]) true (
 .q (.op 6 (some 4) (.mv (.t 152)) <|
 .nil) <|
 .fin) <|
 .no) <|
 .no
def Q25 : RFun := ⟨153, [0, 1, 2, 3, 4, 5, 6, 8, 9, 10, 11, 12, 13, 35, 36, 52, 53, 54, 61, 131, 132, 133], (.seq (.reg Q25_0) (.seq (.seq (.reg Q25_1) (.cond (.t 33) (.seq (.reg Q25_2) .ret) .skip)) (.seq (.seq (.reg Q25_3) (.block 0 (.loop Q25_L9))) (.seq (.reg Q25_9) (.seq (.seq (.reg Q25_10) (.block 2 (.loop Q25_L28))) (.seq (.seq (.reg Q25_28) (.block 5 (.loop Q25_L34))) (.seq (.any Q25_34) .ret))))))), [.tmp 4]⟩
theorem Q25_ok : compF Tryz.prog [0, 1, 2, 3, 4, 5, 6, 8, 9, 10, 11, 12, 13, 35, 36, 52, 53, 54, 61, 131, 132, 133] [15, 20, 31, 71, 88, 41, 76, 86, 65, 83, 81, 114, 117, 119, 122, 68, 100, 103, 104, 105, 137, 138, 64, 72, 96, 99, 158, 159, 132, 56, 93, 94, 130, 131, 155, 62, 23, 170] 101 = some Q25 := by kernel_rfl

/- (lockless/axiom.program).steps -/
def Q42_0 : Sts := .op (some 3) (.box 45 (.t 1)) <|
 .op (some 4) (.mv (.c (.slice none 0 0))) <|
 .nil
def Q42_1 : Sts := .op (some 8) (.mv (.t 0)) <|
 .op (some 9) (.call 136 [(.t 8)]) <|
 .op (some 5) (.mv (.t 9)) <|
 .nil
def Q42_2 : Sts := .op (some 6) (.mv (.c (.int .i64 1))) <|
 .nil
def Q42_3 : Sts := .op (some 10) (.mv (.t 6)) <|
 .op (some 11) (.mv (.t 0)) <|
 .op (some 12) (.len (.t 11)) <|
 .op (some 13) (.bin .lss (.t 10) (.t 12)) <|
 .nil
def Q42_4 : AT := .q (.op 0 (some 16) (.mv (.t 0)) <|
 .op 1 (some 17) (.mv (.t 6)) <|
 .op 2 (some 18) (.iaddrS 6 (.t 16) (.t 17)) <|
 .op 3 (some 19) (.faddr 5 (.t 18)) <|
 .op 4 (some 20) (.loadI .i64 (.t 19)) <|
 .op 5 (some 21) (.mv (.t 0)) <|
 .op 6 (some 22) (.mv (.t 6)) <|
 .op 7 (some 23) (.bin .sub (.t 22) (.c (.int .i64 1))) <|
 .op 8 (some 24) (.iaddrS 6 (.t 21) (.t 23)) <|
 .op 9 (some 25) (.faddr 5 (.t 24)) <|
 .op 10 (some 26) (.loadI .i64 (.t 25)) <|
 .op 11 (some 27) (.bin .eql (.t 20) (.t 26)) <|
 .nil) <|
 .fin
def Q42_5 : Sts := .op (some 28) (.mv (.t 5)) <|
 .op (some 29) (.mv (.t 6)) <|
 .op (some 30) (.bin .sub (.t 29) (.c (.int .i64 1))) <|
 .op (some 31) (.mv (.t 6)) <|
 .op (some 32) (.call 121 [(.t 28), (.t 30), (.t 31)]) <|
 .nil
def Q42_6 : Sts := .op (some 14) (.mv (.t 6)) <|
 .op (some 15) (.bin .add (.t 14) (.c (.int .i64 1))) <|
 .op (some 6) (.mv (.t 15)) <|
 .nil
def Q42_L7 : RCode := (.seq (.seq (.reg Q42_3) (.cond (.t 13) .skip (.exit 0))) (.seq (.block 1 (.seq (.any Q42_4) (.cond (.t 27) (.reg Q42_5) .skip))) (.reg Q42_6)))
def Q42_7 : Sts := .op (some 7) (.mv (.c (.int .i64 1))) <|
 .nil
def Q42_8 : Sts := .op (some 33) (.mv (.t 7)) <|
 .op (some 34) (.faddr 3 (.t 3)) <|
 .op (some 35) (.loadS (.t 34)) <|
 .op (some 36) (.len (.t 35)) <|
 .op (some 37) (.bin .lss (.t 33) (.t 36)) <|
 .nil
def Q42_9 : AT := .q (.op 0 (some 40) (.mv (.t 5)) <|
 .op 1 (some 41) (.faddr 3 (.t 3)) <|
 .op 2 (some 42) (.loadS (.t 41)) <|
 .op 3 (some 43) (.mv (.t 7)) <|
 .op 4 (some 44) (.bin .sub (.t 43) (.c (.int .i64 1))) <|
 .op 5 (some 45) (.iaddrS 1 (.t 42) (.t 44)) <|
 .op 6 (some 46) (.loadI .i64 (.t 45)) <|
 .op 7 (some 47) (.faddr 3 (.t 3)) <|
 .op 8 (some 48) (.loadS (.t 47)) <|
 .op 9 (some 49) (.mv (.t 7)) <|
 .op 10 (some 50) (.iaddrS 1 (.t 48) (.t 49)) <|
 .op 11 (some 51) (.loadI .i64 (.t 50)) <|
 .nil) <|
 .s 12 (some 52) (.call 121 [(.t 40), (.t 46), (.t 51)]) true (
 .q (.nil) <|
 .fin) <|
 .no
def Q42_10 : Sts := .op (some 38) (.mv (.t 7)) <|
 .op (some 39) (.bin .add (.t 38) (.c (.int .i64 1))) <|
 .op (some 7) (.mv (.t 39)) <|
 .nil
def Q42_L11 : RCode := (.seq (.seq (.reg Q42_8) (.cond (.t 37) .skip (.exit 2))) (.seq (.block 3 (.any Q42_9)) (.reg Q42_10)))
def Q42_11 : Sts := .op (some 53) (.mv (.t 5)) <|
 .op (some 4) (.mv (.t 53)) <|
 .nil
def Q42 : RFun := ⟨54, [0, 1, 3, 4, 5, 6, 7], (.seq (.reg Q42_0) (.seq (.reg Q42_1) (.seq (.seq (.reg Q42_2) (.block 0 (.loop Q42_L7))) (.seq (.seq (.reg Q42_7) (.block 2 (.loop Q42_L11))) (.seq (.reg Q42_11) .ret))))), [.tmp 4]⟩
theorem Q42_ok : compF Tryz.prog [0, 1, 3, 4, 5, 6, 7] [15, 20, 31, 71, 88, 41, 76, 86, 65, 83, 81, 114, 117, 119, 122, 68, 100, 103, 104, 105, 137, 138, 64, 72, 96, 99, 158, 159, 132, 56, 93, 94, 130, 131, 155, 62, 23, 170] 102 = some Q42 := by kernel_rfl

/- (lockless/axiom.program).starts -/
def Q41_0 : Sts := .op (some 4) (.mv (.c (.int .u32 0))) <|
 .nil
def Q41_1 : Sts := .op (some 5) (.mv (.c (.int .u32 0))) <|
 .nil
def Q41_2 : Sts := .op (some 7) (.mv (.t 0)) <|
 .op (some 8) (.mv (.t 1)) <|
 .op (some 9) (.iaddrS 6 (.t 7) (.t 8)) <|
 .op (some 10) (.loadA 6 (.t 9)) <|
 .op (some 11) (.call 137 [(.t 10)]) <|
 .nil
def Q41_3 : Sts := .op (some 12) (.mv (.t 5)) <|
 .op (some 13) (.mv (.t 1)) <|
 .op (some 14) (.bin .shl (.c (.int .u32 1)) (.t 13)) <|
 .op (some 15) (.bin .or (.t 12) (.t 14)) <|
 .op (some 5) (.mv (.t 15)) <|
 .nil
def Q41_4 : Sts := .op (some 16) (.mv (.t 1)) <|
 .op (some 17) (.bin .sub (.t 16) (.c (.int .i64 1))) <|
 .op (some 6) (.mv (.t 17)) <|
 .nil
def Q41_5 : AT := .q (.op 0 (some 18) (.mv (.t 6)) <|
 .op 1 (some 19) (.bin .geq (.t 18) (.c (.int .i64 0))) <|
 .op 2 (some 20) (.mv (.t 19)) <|
 .g 20 true (
 .op 3 (some 21) (.mv (.t 0)) <|
 .op 4 (some 22) (.mv (.t 6)) <|
 .op 5 (some 23) (.iaddrS 6 (.t 21) (.t 22)) <|
 .op 6 (some 24) (.faddr 5 (.t 23)) <|
 .op 7 (some 25) (.loadI .i64 (.t 24)) <|
 .op 8 (some 26) (.mv (.t 0)) <|
 .op 9 (some 27) (.mv (.t 1)) <|
 .op 10 (some 28) (.iaddrS 6 (.t 26) (.t 27)) <|
 .op 11 (some 29) (.faddr 5 (.t 28)) <|
 .op 12 (some 30) (.loadI .i64 (.t 29)) <|
 .op 13 (some 31) (.bin .eql (.t 25) (.t 30)) <|
 .nil) 14 32 (.t 31) <|
 .nil) <|
 .fin
def Q41_6 : Sts := .op (some 35) (.mv (.t 0)) <|
 .op (some 36) (.mv (.t 6)) <|
 .op (some 37) (.iaddrS 6 (.t 35) (.t 36)) <|
 .op (some 38) (.faddr 0 (.t 37)) <|
 .op (some 39) (.faddr 0 (.t 38)) <|
 .op (some 40) (.loadI .i64 (.t 39)) <|
 .op (some 41) (.bin .eql (.t 40) (.c (.int .i64 5))) <|
 .op (some 42) (.mv (.t 41)) <|
 .cnd 42 true (
 .op (some 43) (.mv (.t 0)) <|
 .op (some 44) (.mv (.t 6)) <|
 .op (some 45) (.iaddrS 6 (.t 43) (.t 44)) <|
 .op (some 46) (.loadA 6 (.t 45)) <|
 .op (some 47) (.call 137 [(.t 46)]) <|
 .nil) 48 (.t 47) <|
 .nil
def Q41_7 : Sts := .op (some 49) (.mv (.t 5)) <|
 .op (some 50) (.mv (.t 6)) <|
 .op (some 51) (.bin .shl (.c (.int .u32 1)) (.t 50)) <|
 .op (some 52) (.bin .or (.t 49) (.t 51)) <|
 .op (some 5) (.mv (.t 52)) <|
 .nil
def Q41_8 : Sts := .op (some 33) (.mv (.t 6)) <|
 .op (some 34) (.bin .sub (.t 33) (.c (.int .i64 1))) <|
 .op (some 6) (.mv (.t 34)) <|
 .nil
def Q41_L9 : RCode := (.seq (.seq (.any Q41_5) (.cond (.t 32) .skip (.exit 0))) (.seq (.block 1 (.seq (.reg Q41_6) (.cond (.t 48) (.reg Q41_7) .skip))) (.reg Q41_8)))
def Q41_9 : Sts := .op (some 53) (.mv (.t 5)) <|
 .op (some 4) (.mv (.t 53)) <|
 .nil
def Q41 : RFun := ⟨54, [0, 1, 4, 5, 6], (.seq (.reg Q41_0) (.seq (.reg Q41_1) (.seq (.seq (.reg Q41_2) (.cond (.t 11) (.reg Q41_3) .skip)) (.seq (.seq (.reg Q41_4) (.block 0 (.loop Q41_L9))) (.seq (.reg Q41_9) .ret))))), [.tmp 4]⟩
theorem Q41_ok : compF Tryz.prog [0, 1, 4, 5, 6] [15, 20, 31, 71, 88, 41, 76, 86, 65, 83, 81, 114, 117, 119, 122, 68, 100, 103, 104, 105, 137, 138, 64, 72, 96, 99, 158, 159, 132, 56, 93, 94, 130, 131, 155, 62, 23, 170] 103 = some Q41 := by kernel_rfl

/- (lockless/axiom.program).exchanged -/
def Q20_0 : Sts := .op (some 4) (.box 45 (.t 1)) <|
 .op (some 6) (.mv (.c (.bool false))) <|
 .nil
def Q20_1 : Sts := .op (some 7) (.mv (.t 0)) <|
 .op (some 8) (.mv (.t 2)) <|
 .op (some 9) (.iaddrS 6 (.t 7) (.t 8)) <|
 .op (some 10) (.loadA 6 (.t 9)) <|
 .op (some 11) (.call 86 [(.t 10)]) <|
 .op (some 12) (.mv (.t 11)) <|
 .cnd 12 true (
 .op (some 13) (.faddr 1 (.t 4)) <|
 .op (some 14) (.loadS (.t 13)) <|
 .op (some 15) (.mv (.t 2)) <|
 .op (some 16) (.iaddrS 1 (.t 14) (.t 15)) <|
 .op (some 17) (.loadB (.t 16)) <|
 .nil) 18 (.t 17) <|
 .op (some 6) (.mv (.t 18)) <|
 .nil
def Q20 : RFun := ⟨19, [0, 1, 2, 4, 6], (.seq (.reg Q20_0) (.seq (.reg Q20_1) .ret)), [.tmp 6]⟩
theorem Q20_ok : compF Tryz.prog [0, 1, 2, 4, 6] [15, 20, 31, 71, 88, 41, 76, 86, 65, 83, 81, 114, 117, 119, 122, 68, 100, 103, 104, 105, 137, 138, 64, 72, 96, 99, 158, 159, 132, 56, 93, 94, 130, 131, 155, 62, 23, 170] 104 = some Q20 := by kernel_rfl

/- (lockless/axiom.program).ends -/
def Q19_0 : Sts := .op (some 4) (.mv (.c (.int .u32 0))) <|
 .nil
def Q19_1 : Sts := .op (some 5) (.mv (.c (.int .u32 0))) <|
 .nil
def Q19_2 : Sts := .op (some 7) (.mv (.t 0)) <|
 .op (some 8) (.mv (.t 1)) <|
 .op (some 9) (.iaddrS 6 (.t 7) (.t 8)) <|
 .op (some 10) (.loadA 6 (.t 9)) <|
 .op (some 11) (.call 138 [(.t 10)]) <|
 .nil
def Q19_3 : Sts := .op (some 12) (.mv (.t 5)) <|
 .op (some 13) (.mv (.t 1)) <|
 .op (some 14) (.bin .shl (.c (.int .u32 1)) (.t 13)) <|
 .op (some 15) (.bin .or (.t 12) (.t 14)) <|
 .op (some 5) (.mv (.t 15)) <|
 .nil
def Q19_4 : Sts := .op (some 16) (.mv (.t 1)) <|
 .op (some 17) (.bin .add (.t 16) (.c (.int .i64 1))) <|
 .op (some 6) (.mv (.t 17)) <|
 .nil
def Q19_5 : AT := .q (.op 0 (some 18) (.mv (.t 6)) <|
 .op 1 (some 19) (.mv (.t 0)) <|
 .op 2 (some 20) (.len (.t 19)) <|
 .op 3 (some 21) (.bin .lss (.t 18) (.t 20)) <|
 .op 4 (some 22) (.mv (.t 21)) <|
 .g 22 true (
 .op 5 (some 23) (.mv (.t 0)) <|
 .op 6 (some 24) (.mv (.t 6)) <|
 .op 7 (some 25) (.iaddrS 6 (.t 23) (.t 24)) <|
 .op 8 (some 26) (.faddr 5 (.t 25)) <|
 .op 9 (some 27) (.loadI .i64 (.t 26)) <|
 .op 10 (some 28) (.mv (.t 0)) <|
 .op 11 (some 29) (.mv (.t 1)) <|
 .op 12 (some 30) (.iaddrS 6 (.t 28) (.t 29)) <|
 .op 13 (some 31) (.faddr 5 (.t 30)) <|
 .op 14 (some 32) (.loadI .i64 (.t 31)) <|
 .op 15 (some 33) (.bin .eql (.t 27) (.t 32)) <|
 .nil) 16 34 (.t 33) <|
 .nil) <|
 .fin
def Q19_6 : Sts := .op (some 37) (.mv (.t 0)) <|
 .op (some 38) (.mv (.t 6)) <|
 .op (some 39) (.iaddrS 6 (.t 37) (.t 38)) <|
 .op (some 40) (.faddr 0 (.t 39)) <|
 .op (some 41) (.faddr 0 (.t 40)) <|
 .op (some 42) (.loadI .i64 (.t 41)) <|
 .op (some 43) (.bin .eql (.t 42) (.c (.int .i64 5))) <|
 .op (some 44) (.mv (.t 43)) <|
 .cnd 44 true (
 .op (some 45) (.mv (.t 0)) <|
 .op (some 46) (.mv (.t 6)) <|
 .op (some 47) (.iaddrS 6 (.t 45) (.t 46)) <|
 .op (some 48) (.loadA 6 (.t 47)) <|
 .op (some 49) (.call 138 [(.t 48)]) <|
 .nil) 50 (.t 49) <|
 .nil
def Q19_7 : Sts := .op (some 51) (.mv (.t 5)) <|
 .op (some 52) (.mv (.t 6)) <|
 .op (some 53) (.bin .shl (.c (.int .u32 1)) (.t 52)) <|
 .op (some 54) (.bin .or (.t 51) (.t 53)) <|
 .op (some 5) (.mv (.t 54)) <|
 .nil
def Q19_8 : Sts := .op (some 35) (.mv (.t 6)) <|
 .op (some 36) (.bin .add (.t 35) (.c (.int .i64 1))) <|
 .op (some 6) (.mv (.t 36)) <|
 .nil
def Q19_L9 : RCode := (.seq (.seq (.any Q19_5) (.cond (.t 34) .skip (.exit 0))) (.seq (.block 1 (.seq (.reg Q19_6) (.cond (.t 50) (.reg Q19_7) .skip))) (.reg Q19_8)))
def Q19_9 : Sts := .op (some 55) (.mv (.t 5)) <|
 .op (some 4) (.mv (.t 55)) <|
 .nil
def Q19 : RFun := ⟨56, [0, 1, 4, 5, 6], (.seq (.reg Q19_0) (.seq (.reg Q19_1) (.seq (.seq (.reg Q19_2) (.cond (.t 11) (.reg Q19_3) .skip)) (.seq (.seq (.reg Q19_4) (.block 0 (.loop Q19_L9))) (.seq (.reg Q19_9) .ret))))), [.tmp 4]⟩
theorem Q19_ok : compF Tryz.prog [0, 1, 4, 5, 6] [15, 20, 31, 71, 88, 41, 76, 86, 65, 83, 81, 114, 117, 119, 122, 68, 100, 103, 104, 105, 137, 138, 64, 72, 96, 99, 158, 159, 132, 56, 93, 94, 130, 131, 155, 62, 23, 170] 105 = some Q19 := by kernel_rfl

/- (lockless/axiom.relation).close -/
def Q47_0 : Sts := .op (some 2) (.mv (.c (.slice none 0 0))) <|
 .nil
def Q47_1 : Sts := .op (some 5) (.mv (.t 0)) <|
 .op (some 6) (.len (.t 5)) <|
 .op (some 7) (.mv (.c (.int .i64 0))) <|
 .nil
def Q47_2 : Sts := .op (some 8) (.bin .lss (.t 7) (.t 6)) <|
 .nil
def Q47_3 : Sts := .op (some 9) (.mv (.t 7)) <|
 .op (some 3) (.mv (.t 9)) <|
 .nil
def Q47_4 : Sts := .op (some 10) (.mv (.t 0)) <|
 .op (some 11) (.len (.t 10)) <|
 .op (some 12) (.mv (.c (.int .i64 0))) <|
 .nil
def Q47_5 : Sts := .op (some 13) (.bin .lss (.t 12) (.t 11)) <|
 .nil
def Q47_6 : Sts := .op (some 14) (.mv (.t 12)) <|
 .op (some 4) (.mv (.t 14)) <|
 .nil
def Q47_7 : Sts := .op (some 15) (.mv (.t 0)) <|
 .op (some 16) (.mv (.t 4)) <|
 .op (some 17) (.mv (.t 3)) <|
 .op (some 18) (.call 68 [(.t 15), (.t 16), (.t 17)]) <|
 .nil
def Q47_8 : AT := .q (.op 0 (some 19) (.mv (.t 0)) <|
 .op 1 (some 20) (.mv (.t 4)) <|
 .op 2 (some 21) (.iaddrS 1 (.t 19) (.t 20)) <|
 .op 3 (some 22) (.loadI .u32 (.t 21)) <|
 .op 4 (some 23) (.mv (.t 0)) <|
 .op 5 (some 24) (.mv (.t 3)) <|
 .op 6 (some 25) (.iaddrS 1 (.t 23) (.t 24)) <|
 .op 7 (some 26) (.loadI .u32 (.t 25)) <|
 .op 8 (some 27) (.bin .or (.t 22) (.t 26)) <|
 .op 9 (some 28) (.iaddrS 1 (.t 19) (.t 20)) <|
 .nil) <|
 .s 10 none (.store 1 (.t 28) (.t 27)) true (
 .q (.nil) <|
 .fin) <|
 .no
def Q47_9 : Sts := .op (some 29) (.bin .add (.t 12) (.c (.int .i64 1))) <|
 .op (some 12) (.mv (.t 29)) <|
 .nil
def Q47_L10 : RCode := (.seq (.reg Q47_5) (.seq (.cond (.t 13) .skip (.exit 2)) (.seq (.block 3 (.seq (.reg Q47_6) (.seq (.reg Q47_7) (.cond (.t 18) (.any Q47_8) .skip)))) (.reg Q47_9))))
def Q47_10 : Sts := .op (some 30) (.bin .add (.t 7) (.c (.int .i64 1))) <|
 .op (some 7) (.mv (.t 30)) <|
 .nil
def Q47_L11 : RCode := (.seq (.reg Q47_2) (.seq (.cond (.t 8) .skip (.exit 0)) (.seq (.block 1 (.seq (.reg Q47_3) (.seq (.reg Q47_4) (.block 2 (.loop Q47_L10))))) (.reg Q47_10))))
def Q47_11 : Sts := .op (some 31) (.mv (.t 0)) <|
 .op (some 2) (.mv (.t 31)) <|
 .nil
def Q47 : RFun := ⟨32, [0, 2, 3, 4, 6, 7, 11, 12], (.seq (.reg Q47_0) (.seq (.seq (.reg Q47_1) (.block 0 (.loop Q47_L11))) (.seq (.reg Q47_11) .ret))), [.tmp 2]⟩
theorem Q47_ok : compF Tryz.prog [0, 2, 3, 4, 6, 7, 11, 12] [15, 20, 31, 71, 88, 41, 76, 86, 65, 83, 81, 114, 117, 119, 122, 68, 100, 103, 104, 105, 137, 138, 64, 72, 96, 99, 158, 159, 132, 56, 93, 94, 130, 131, 155, 62, 23, 170] 106 = some Q47 := by kernel_rfl

/- (lockless/axiom.program).dones$1 -/
def Q17_0 : Sts := .op (some 10) (.loadS (.t 1)) <|
 .op (some 11) (.mkfn 108 [] [(.t 1)]) <|
 .op (some 12) (.call 74 [(.t 10), (.t 11)]) <|
 .op (some 3) (.mv (.t 12)) <|
 .nil
def Q17_1 : Sts := .op (some 13) (.mv (.t 3)) <|
 .op (some 14) (.len (.t 13)) <|
 .op (some 15) (.bin .shl (.c (.int .i64 1)) (.t 14)) <|
 .op (some 16) (.mv (.c (.int .i64 0))) <|
 .nil
def Q17_2 : Sts := .op (some 17) (.bin .lss (.t 16) (.t 15)) <|
 .nil
def Q17_3 : Sts := .op (some 18) (.mv (.t 16)) <|
 .op (some 4) (.mv (.t 18)) <|
 .nil
def Q17_4 : Sts := .op (some 19) (.loadS (.t 1)) <|
 .op (some 20) (.len (.t 19)) <|
 .op (some 21) (.makeSl 4 1 1 [(.bool false)] (.t 20) (.t 20)) <|
 .op (some 5) (.mv (.t 21)) <|
 .nil
def Q17_5 : Sts := .op (some 22) (.loadS (.t 1)) <|
 .op (some 23) (.len (.t 22)) <|
 .op (some 24) (.mv (.c (.int .i64 0))) <|
 .nil
def Q17_6 : Sts := .op (some 25) (.bin .lss (.t 24) (.t 23)) <|
 .nil
def Q17_7 : Sts := .op (some 26) (.mv (.t 24)) <|
 .op (some 27) (.iaddrS 6 (.t 22) (.t 24)) <|
 .op (some 28) (.loadA 6 (.t 27)) <|
 .op (some 7) (.alloc 121 [(.int .i64 0), (.int .i64 0), (.int .i64 0), (.int .i64 0), (.int .i64 0), (.int .i64 0)]) <|
 .op (some 6) (.mv (.t 26)) <|
 .op none (.store 6 (.t 7) (.t 28)) <|
 .nil
def Q17_8 : Sts := .op (some 29) (.mv (.t 5)) <|
 .op (some 30) (.mv (.t 6)) <|
 .op (some 31) (.faddr 0 (.t 7)) <|
 .op (some 32) (.faddr 0 (.t 31)) <|
 .op (some 33) (.loadI .i64 (.t 32)) <|
 .op (some 34) (.bin .eql (.t 33) (.c (.int .i64 1))) <|
 .op (some 35) (.mv (.t 34)) <|
 .cnd 35 false (
 .op (some 36) (.faddr 0 (.t 7)) <|
 .op (some 37) (.faddr 0 (.t 36)) <|
 .op (some 38) (.loadI .i64 (.t 37)) <|
 .op (some 39) (.bin .eql (.t 38) (.c (.int .i64 2))) <|
 .nil) 40 (.t 39) <|
 .op (some 41) (.iaddrS 1 (.t 29) (.t 30)) <|
 .op none (.store 1 (.t 41) (.t 40)) <|
 .nil
def Q17_9 : Sts := .op (some 42) (.bin .add (.t 24) (.c (.int .i64 1))) <|
 .op (some 24) (.mv (.t 42)) <|
 .nil
def Q17_L10 : RCode := (.seq (.reg Q17_6) (.seq (.cond (.t 25) .skip (.exit 2)) (.seq (.block 3 (.seq (.reg Q17_7) (.reg Q17_8))) (.reg Q17_9))))
def Q17_10 : Sts := .op (some 43) (.mv (.t 3)) <|
 .op (some 44) (.len (.t 43)) <|
 .op (some 45) (.mv (.c (.int .i64 0))) <|
 .nil
def Q17_11 : Sts := .op (some 46) (.bin .lss (.t 45) (.t 44)) <|
 .nil
def Q17_12 : Sts := .op (some 47) (.mv (.t 45)) <|
 .op (some 48) (.iaddrS 1 (.t 43) (.t 45)) <|
 .op (some 49) (.loadI .i64 (.t 48)) <|
 .op (some 8) (.mv (.t 47)) <|
 .op (some 9) (.mv (.t 49)) <|
 .nil
def Q17_13 : Sts := .op (some 50) (.mv (.t 5)) <|
 .op (some 51) (.mv (.t 9)) <|
 .op (some 52) (.mv (.t 4)) <|
 .op (some 53) (.mv (.t 8)) <|
 .op (some 54) (.bin .shr (.t 52) (.t 53)) <|
 .op (some 55) (.bin .and (.t 54) (.c (.int .i64 1))) <|
 .op (some 56) (.bin .eql (.t 55) (.c (.int .i64 1))) <|
 .op (some 57) (.iaddrS 1 (.t 50) (.t 51)) <|
 .op none (.store 1 (.t 57) (.t 56)) <|
 .nil
def Q17_14 : Sts := .op (some 58) (.bin .add (.t 45) (.c (.int .i64 1))) <|
 .op (some 45) (.mv (.t 58)) <|
 .nil
def Q17_L15 : RCode := (.seq (.reg Q17_11) (.seq (.cond (.t 46) .skip (.exit 4)) (.seq (.block 5 (.seq (.reg Q17_12) (.reg Q17_13))) (.reg Q17_14))))
def Q17_15 : Sts := .op (some 59) (.mv (.t 0)) <|
 .op (some 60) (.mv (.t 5)) <|
 .op (some 61) (.callv (.t 59) [(.t 60)]) <|
 .op (some 62) (.notb (.t 61)) <|
 .nil
def Q17_16 : Sts := .op (some 63) (.bin .add (.t 16) (.c (.int .i64 1))) <|
 .op (some 16) (.mv (.t 63)) <|
 .nil
def Q17_L17 : RCode := (.seq (.reg Q17_2) (.seq (.cond (.t 17) .skip (.exit 0)) (.seq (.block 1 (.seq (.reg Q17_3) (.seq (.reg Q17_4) (.seq (.seq (.reg Q17_5) (.block 2 (.loop Q17_L10))) (.seq (.seq (.reg Q17_10) (.block 4 (.loop Q17_L15))) (.seq (.reg Q17_15) (.cond (.t 62) .ret .skip))))))) (.reg Q17_16))))
def Q17 : RFun := ⟨64, [0, 1, 3, 4, 5, 6, 7, 8, 9, 15, 16, 22, 23, 24, 43, 44, 45], (.seq (.reg Q17_0) (.seq (.reg Q17_1) (.block 0 (.loop Q17_L17)))), []⟩
theorem Q17_ok : compF Tryz.prog [0, 1, 3, 4, 5, 6, 7, 8, 9, 15, 16, 22, 23, 24, 43, 44, 45] [15, 20, 31, 71, 88, 41, 76, 86, 65, 83, 81, 114, 117, 119, 122, 68, 100, 103, 104, 105, 137, 138, 64, 72, 96, 99, 158, 159, 132, 56, 93, 94, 130, 131, 155, 62, 23, 170] 107 = some Q17 := by kernel_rfl

/- (lockless/axiom.program).dones$1$1 -/
def Q18_0 : Sts := .op (some 3) (.mv (.c (.bool false))) <|
 .nil
def Q18_1 : Sts := .op (some 4) (.loadS (.t 1)) <|
 .op (some 5) (.mv (.t 0)) <|
 .op (some 6) (.iaddrS 6 (.t 4) (.t 5)) <|
 .op (some 7) (.faddr 0 (.t 6)) <|
 .op (some 8) (.faddr 0 (.t 7)) <|
 .op (some 9) (.loadI .i64 (.t 8)) <|
 .op (some 10) (.bin .eql (.t 9) (.c (.int .i64 3))) <|
 .op (some 11) (.mv (.t 10)) <|
 .cnd 11 false (
 .op (some 12) (.loadS (.t 1)) <|
 .op (some 13) (.mv (.t 0)) <|
 .op (some 14) (.iaddrS 6 (.t 12) (.t 13)) <|
 .op (some 15) (.faddr 0 (.t 14)) <|
 .op (some 16) (.faddr 0 (.t 15)) <|
 .op (some 17) (.loadI .i64 (.t 16)) <|
 .op (some 18) (.bin .eql (.t 17) (.c (.int .i64 4))) <|
 .nil) 19 (.t 18) <|
 .op (some 3) (.mv (.t 19)) <|
 .nil
def Q18 : RFun := ⟨20, [0, 1, 3], (.seq (.reg Q18_0) (.seq (.reg Q18_1) .ret)), [.tmp 3]⟩
theorem Q18_ok : compF Tryz.prog [0, 1, 3] [15, 20, 31, 71, 88, 41, 76, 86, 65, 83, 81, 114, 117, 119, 122, 68, 100, 103, 104, 105, 137, 138, 64, 72, 96, 99, 158, 159, 132, 56, 93, 94, 130, 131, 155, 62, 23, 170] 108 = some Q18 := by kernel_rfl

/- (lockless/axiom.program).orders$1 -/
def Q35_0 : Sts := .op (some 4) (.box 149 (.t 0)) <|
 .nil
def Q35_1 : Sts := .op (some 7) (.loadI .i64 (.t 1)) <|
 .op (some 8) (.bin .eql (.t 7) (.c (.int .i64 3))) <|
 .nil
def Q35_2 : Sts := .op (some 9) (.loadX (.t 4)) <|
 .op (some 10) (.callv (.t 9) [(.c (.slice none 0 0))]) <|
 .nil
def Q35_3 : AT := .q (.op 0 (some 11) (.loadS (.t 2)) <|
 .op 1 (some 12) (.loadS (.t 2)) <|
 .op 2 (some 13) (.loadS (.t 3)) <|
 .op 3 (some 14) (.loadI .i64 (.t 1)) <|
 .nil) <|
 .s 4 (some 15) (.call 110 [(.t 12), (.t 13), (.t 14)]) false (
 .q (.nil) <|
 .s 5 (some 16) (.call 82 [(.t 11), (.t 15)]) true (
 .q (.nil) <|
 .fin) <|
 .no) <|
 .no
def Q35_4 : Sts := .op (some 5) (.alloc 34 [(.slice none 0 0)]) <|
 .op none (.store 1 (.t 5) (.t 17)) <|
 .nil
def Q35_5 : Sts := .op (some 18) (.loadS (.t 2)) <|
 .op (some 19) (.loadS (.t 3)) <|
 .op (some 20) (.loadI .i64 (.t 1)) <|
 .op (some 21) (.bin .add (.t 20) (.c (.int .i64 1))) <|
 .op (some 22) (.call 79 [(.t 18), (.t 19), (.t 21)]) <|
 .nil
def Q35_6 : Sts := .op (some 6) (.mv (.t 23)) <|
 .nil
def Q35_7 : AT := .q (.op 0 (some 24) (.loadX (.t 4)) <|
 .op 1 (some 25) (.loadS (.t 5)) <|
 .op 3 (some 27) (.mv (.t 6)) <|
 .nil) <|
 .s 2 (some 26) (.buildSl 34 1 [(.slice none 0 0)] [(0, 1, (.t 25))]) false (
 .q (.nil) <|
 .s 4 (some 28) (.append 34 1 24 [(.slice none 0 0)] (.t 26) (.t 27)) false (
 .q (.nil) <|
 .s 5 (some 29) (.callv (.t 24) [(.t 28)]) true (
 .q (.op 6 (some 30) (.notb (.t 29)) <|
 .nil) <|
 .fin) <|
 .no) <|
 .no) <|
 .no
def R_axiom_program_orders_S1_A8 : RCode := (.reg Q35_6)
def R_axiom_program_orders_S1_B8 : RCode := (.block 3 (.seq (.any Q35_7) (.cond (.t 30) .ret .skip)))
def R_axiom_program_orders_S1_A9 : RCode := (.reg Q35_4)
def R_axiom_program_orders_S1_B9 : RCode := (.block 1 (.seq (.reg Q35_5) (.block 2 (.rangeF (.t 22) [23] R_axiom_program_orders_S1_A8 R_axiom_program_orders_S1_B8))))
def Q35 : RFun := ⟨31, [0, 1, 2, 3, 4, 5, 6, 16, 17, 22, 23], (.seq (.reg Q35_0) (.seq (.seq (.reg Q35_1) (.cond (.t 8) (.seq (.reg Q35_2) .ret) .skip)) (.seq (.any Q35_3) (.block 0 (.rangeF (.t 16) [17] R_axiom_program_orders_S1_A9 R_axiom_program_orders_S1_B9))))), []⟩
theorem Q35_ok : compF Tryz.prog [0, 1, 2, 3, 4, 5, 6, 16, 17, 22, 23] [15, 20, 31, 71, 88, 41, 76, 86, 65, 83, 81, 114, 117, 119, 122, 68, 100, 103, 104, 105, 137, 138, 64, 72, 96, 99, 158, 159, 132, 56, 93, 94, 130, 131, 155, 62, 23, 170] 109 = some Q35 := by kernel_rfl

/- (lockless/axiom.program).writers -/
def Q44_0 : Sts := .op (some 3) (.box 74 (.t 0)) <|
 .op (some 4) (.box 35 (.t 1)) <|
 .op (some 5) (.box 3 (.t 2)) <|
 .op (some 6) (.mv (.c (.slice none 0 0))) <|
 .nil
def Q44_1 : Sts := .op (some 7) (.loadS (.t 3)) <|
 .op (some 8) (.mkfn 139 [] [(.t 3), (.t 4), (.t 5)]) <|
 .op (some 9) (.call 74 [(.t 7), (.t 8)]) <|
 .op (some 6) (.mv (.t 9)) <|
 .nil
def Q44 : RFun := ⟨10, [0, 1, 2, 3, 4, 5, 6], (.seq (.reg Q44_0) (.seq (.reg Q44_1) .ret)), [.tmp 6]⟩
theorem Q44_ok : compF Tryz.prog [0, 1, 2, 3, 4, 5, 6] [15, 20, 31, 71, 88, 41, 76, 86, 65, 83, 81, 114, 117, 119, 122, 68, 100, 103, 104, 105, 137, 138, 64, 72, 96, 99, 158, 159, 132, 56, 93, 94, 130, 131, 155, 62, 23, 170] 110 = some Q44 := by kernel_rfl

/- (lockless/axiom.program).froms$1 -/
def Q28_0 : Sts := .op (some 4) (.box 151 (.t 0)) <|
 .nil
def Q28_1 : Sts := .op (some 7) (.loadS (.t 1)) <|
 .op (some 8) (.len (.t 7)) <|
 .op (some 9) (.makeSl 3 1 8 [(.int .i64 0)] (.t 8) (.t 8)) <|
 .op (some 5) (.alloc 34 [(.slice none 0 0)]) <|
 .op none (.store 1 (.t 5) (.t 9)) <|
 .nil
def Q28_2 : Sts := .op (some 6) (.alloc 123 [.nilFunc]) <|
 .nil
def Q28_3 : Sts := .op (some 10) (.mkfn 112 [] [(.t 1), (.t 4), (.t 5), (.t 6), (.t 2), (.t 3)]) <|
 .op none (.store 1 (.t 6) (.t 10)) <|
 .nil
def Q28_4 : Sts := .op (some 11) (.loadX (.t 6)) <|
 .op (some 12) (.callv (.t 11) [(.c (.int .i64 0))]) <|
 .nil
def Q28 : RFun := ⟨13, [0, 1, 2, 3, 4, 5, 6], (.seq (.reg Q28_0) (.seq (.reg Q28_1) (.seq (.reg Q28_2) (.seq (.reg Q28_3) (.reg Q28_4))))), []⟩
theorem Q28_ok : compF Tryz.prog [0, 1, 2, 3, 4, 5, 6] [15, 20, 31, 71, 88, 41, 76, 86, 65, 83, 81, 114, 117, 119, 122, 68, 100, 103, 104, 105, 137, 138, 64, 72, 96, 99, 158, 159, 132, 56, 93, 94, 130, 131, 155, 62, 23, 170] 111 = some Q28 := by kernel_rfl

/- (lockless/axiom.program).froms$1$1 -/
def Q29_0 : Sts := .op (some 8) (.mv (.c (.bool false))) <|
 .nil
def Q29_1 : Sts := .op (some 13) (.mv (.t 0)) <|
 .op (some 14) (.loadS (.t 1)) <|
 .op (some 15) (.len (.t 14)) <|
 .op (some 16) (.bin .eql (.t 13) (.t 15)) <|
 .nil
def Q29_2 : AT := .q (.op 0 (some 17) (.loadX (.t 2)) <|
 .op 1 (some 18) (.loadS (.t 3)) <|
 .nil) <|
 .s 2 (some 19) (.call 113 [(.t 18)]) false (
 .q (.nil) <|
 .s 3 (some 20) (.callv (.t 17) [(.t 19)]) true (
 .q (.op 4 (some 8) (.mv (.t 20)) <|
 .nil) <|
 .fin) <|
 .no) <|
 .no
def Q29_3 : Sts := .op (some 21) (.loadS (.t 1)) <|
 .op (some 22) (.mv (.t 0)) <|
 .op (some 23) (.iaddrS 6 (.t 21) (.t 22)) <|
 .op (some 24) (.loadA 6 (.t 23)) <|
 .op (some 25) (.call 86 [(.t 24)]) <|
 .op (some 26) (.notb (.t 25)) <|
 .nil
def Q29_4 : Sts := .op (some 27) (.loadS (.t 3)) <|
 .op (some 28) (.mv (.t 0)) <|
 .op (some 29) (.iaddrS 1 (.t 27) (.t 28)) <|
 .op none (.store 1 (.t 29) (.c (.int .i64 (-2)))) <|
 .nil
def Q29_5 : Sts := .op (some 30) (.loadX (.t 4)) <|
 .op (some 31) (.mv (.t 0)) <|
 .op (some 32) (.bin .add (.t 31) (.c (.int .i64 1))) <|
 .op (some 33) (.callv (.t 30) [(.t 32)]) <|
 .op (some 8) (.mv (.t 33)) <|
 .nil
def Q29_6 : AT := .q (.op 1 (some 35) (.loadS (.t 5)) <|
 .op 2 (some 36) (.loadS (.t 1)) <|
 .op 3 (some 37) (.mv (.t 0)) <|
 .op 4 (some 38) (.iaddrS 6 (.t 36) (.t 37)) <|
 .op 5 (some 39) (.faddr 0 (.t 38)) <|
 .op 6 (some 40) (.faddr 1 (.t 39)) <|
 .op 7 (some 41) (.loadI .i64 (.t 40)) <|
 .op 8 (some 42) (.iaddrS 1 (.t 35) (.t 41)) <|
 .op 9 (some 43) (.loadS (.t 42)) <|
 .nil) <|
 .s 0 (some 34) (.buildSl 3 1 [(.int .i64 0)] [(0, 1, (.c (.int .i64 (-1))))]) false (
 .q (.nil) <|
 .s 10 (some 44) (.append 3 1 8 [(.int .i64 0)] (.t 34) (.t 43)) true (
 .q (.op 11 (some 9) (.mv (.t 44)) <|
 .nil) <|
 .fin) <|
 .no) <|
 .no
def Q29_7 : Sts := .op (some 45) (.loadS (.t 6)) <|
 .op (some 46) (.mv (.t 0)) <|
 .op (some 47) (.iaddrS 1 (.t 45) (.t 46)) <|
 .op (some 48) (.loadB (.t 47)) <|
 .nil
def Q29_8 : Sts := .op (some 49) (.mv (.t 9)) <|
 .op (some 50) (.mv (.t 0)) <|
 .op (some 51) (.call 114 [(.t 49), (.t 50)]) <|
 .op (some 10) (.mv (.t 51)) <|
 .nil
def Q29_9 : Sts := .op (some 52) (.mv (.t 9)) <|
 .op (some 53) (.mv (.t 10)) <|
 .op (some 54) (.bin .sub (.t 53) (.c (.int .i64 1))) <|
 .op (some 55) (.mv (.t 10)) <|
 .op (some 56) (.slS 1 (.t 52) (some (.t 54)) (some (.t 55)) none) <|
 .op (some 9) (.mv (.t 56)) <|
 .nil
def Q29_10 : Sts := .op (some 57) (.mv (.t 9)) <|
 .op (some 58) (.len (.t 57)) <|
 .op (some 59) (.mv (.c (.int .i64 0))) <|
 .nil
def Q29_11 : Sts := .op (some 60) (.bin .lss (.t 59) (.t 58)) <|
 .nil
def Q29_12 : Sts := .op (some 61) (.iaddrS 1 (.t 57) (.t 59)) <|
 .op (some 62) (.loadI .i64 (.t 61)) <|
 .op (some 12) (.mv (.t 62)) <|
 .nil
def Q29_13 : Sts := .op (some 63) (.loadS (.t 3)) <|
 .op (some 64) (.mv (.t 0)) <|
 .op (some 65) (.mv (.t 12)) <|
 .op (some 66) (.iaddrS 1 (.t 63) (.t 64)) <|
 .op none (.store 1 (.t 66) (.t 65)) <|
 .nil
def Q29_14 : Sts := .op (some 67) (.loadX (.t 4)) <|
 .op (some 68) (.mv (.t 0)) <|
 .op (some 69) (.bin .add (.t 68) (.c (.int .i64 1))) <|
 .op (some 70) (.callv (.t 67) [(.t 69)]) <|
 .op (some 71) (.notb (.t 70)) <|
 .nil
def Q29_15 : Sts := .op (some 8) (.mv (.c (.bool false))) <|
 .nil
def Q29_16 : Sts := .op (some 72) (.bin .add (.t 59) (.c (.int .i64 1))) <|
 .op (some 59) (.mv (.t 72)) <|
 .nil
def Q29_L17 : RCode := (.seq (.reg Q29_11) (.seq (.cond (.t 60) .skip (.exit 0)) (.seq (.block 1 (.seq (.reg Q29_12) (.seq (.reg Q29_13) (.seq (.reg Q29_14) (.cond (.t 71) (.seq (.reg Q29_15) .ret) .skip))))) (.reg Q29_16))))
def Q29_17 : Sts := .op (some 8) (.mv (.c (.bool true))) <|
 .nil
def Q29 : RFun := ⟨73, [0, 1, 2, 3, 4, 5, 6, 8, 9, 10, 12, 57, 58, 59], (.seq (.reg Q29_0) (.seq (.seq (.reg Q29_1) (.cond (.t 16) (.seq (.any Q29_2) .ret) .skip)) (.seq (.seq (.reg Q29_3) (.cond (.t 26) (.seq (.reg Q29_4) (.seq (.reg Q29_5) .ret)) .skip)) (.seq (.any Q29_6) (.seq (.seq (.reg Q29_7) (.cond (.t 48) (.seq (.reg Q29_8) (.reg Q29_9)) .skip)) (.seq (.seq (.reg Q29_10) (.block 0 (.loop Q29_L17))) (.seq (.reg Q29_17) .ret))))))), [.tmp 8]⟩
theorem Q29_ok : compF Tryz.prog [0, 1, 2, 3, 4, 5, 6, 8, 9, 10, 12, 57, 58, 59] [15, 20, 31, 71, 88, 41, 76, 86, 65, 83, 81, 114, 117, 119, 122, 68, 100, 103, 104, 105, 137, 138, 64, 72, 96, 99, 158, 159, 132, 56, 93, 94, 130, 131, 155, 62, 23, 170] 112 = some Q29 := by kernel_rfl

/- slices.Clone[[]int,int] -/
def Q77_0 : Sts := .op (some 2) (.mv (.c (.slice none 0 0))) <|
 .nil
def Q77_1 : Sts := .op (some 3) (.mv (.t 0)) <|
 .op (some 4) (.eqS false (.t 3)) <|
 .nil
def Q77_2 : Sts := .op (some 2) (.mv (.c (.slice none 0 0))) <|
 .nil
def Q77_3 : Sts := .op (some 5) (.buildSl 3 0 [] []) <|
 .op (some 6) (.mv (.t 0)) <|
 .op (some 7) (.append 3 1 8 [(.int .i64 0)] (.t 5) (.t 6)) <|
 .op (some 2) (.mv (.t 7)) <|
 .nil
def Q77 : RFun := ⟨8, [0, 2], (.seq (.reg Q77_0) (.seq (.seq (.reg Q77_1) (.cond (.t 4) (.seq (.reg Q77_2) .ret) .skip)) (.seq (.reg Q77_3) .ret))), [.tmp 2]⟩
theorem Q77_ok : compF Tryz.prog [0, 2] [15, 20, 31, 71, 88, 41, 76, 86, 65, 83, 81, 114, 117, 119, 122, 68, 100, 103, 104, 105, 137, 138, 64, 72, 96, 99, 158, 159, 132, 56, 93, 94, 130, 131, 155, 62, 23, 170] 113 = some Q77 := by kernel_rfl

/- slices.Index[[]int,int] -/
def Q86_0 : Sts := .op (some 4) (.mv (.c (.int .i64 0))) <|
 .nil
def Q86_1 : Sts := .op (some 6) (.mv (.t 0)) <|
 .op (some 7) (.len (.t 6)) <|
 .op (some 8) (.mv (.c (.int .i64 0))) <|
 .nil
def Q86_2 : Sts := .op (some 9) (.bin .lss (.t 8) (.t 7)) <|
 .nil
def Q86_3 : Sts := .op (some 10) (.mv (.t 8)) <|
 .op (some 5) (.mv (.t 10)) <|
 .nil
def Q86_4 : Sts := .op (some 11) (.mv (.t 1)) <|
 .op (some 12) (.mv (.t 0)) <|
 .op (some 13) (.mv (.t 5)) <|
 .op (some 14) (.iaddrS 1 (.t 12) (.t 13)) <|
 .op (some 15) (.loadI .i64 (.t 14)) <|
 .op (some 16) (.bin .eql (.t 11) (.t 15)) <|
 .nil
def Q86_5 : Sts := .op (some 17) (.mv (.t 5)) <|
 .op (some 4) (.mv (.t 17)) <|
 .nil
def Q86_6 : Sts := .op (some 18) (.bin .add (.t 8) (.c (.int .i64 1))) <|
 .op (some 8) (.mv (.t 18)) <|
 .nil
def Q86_L7 : RCode := (.seq (.reg Q86_2) (.seq (.cond (.t 9) .skip (.exit 0)) (.seq (.block 1 (.seq (.reg Q86_3) (.seq (.reg Q86_4) (.cond (.t 16) (.seq (.reg Q86_5) .ret) .skip)))) (.reg Q86_6))))
def Q86_7 : Sts := .op (some 4) (.mv (.c (.int .i64 (-1)))) <|
 .nil
def Q86 : RFun := ⟨19, [0, 1, 4, 5, 7, 8], (.seq (.reg Q86_0) (.seq (.seq (.reg Q86_1) (.block 0 (.loop Q86_L7))) (.seq (.reg Q86_7) .ret))), [.tmp 4]⟩
theorem Q86_ok : compF Tryz.prog [0, 1, 4, 5, 7, 8] [15, 20, 31, 71, 88, 41, 76, 86, 65, 83, 81, 114, 117, 119, 122, 68, 100, 103, 104, 105, 137, 138, 64, 72, 96, 99, 158, 159, 132, 56, 93, 94, 130, 131, 155, 62, 23, 170] 114 = some Q86 := by kernel_rfl

/- (lockless/axiom.program).merges$1 -/
def Q31_0 : Sts := .op (some 3) (.box 151 (.t 0)) <|
 .nil
def Q31_1 : Sts := .op (some 4) (.alloc 50 [.nilFunc]) <|
 .nil
def Q31_2 : Sts := .op (some 5) (.mkfn 116 [] [(.t 3), (.t 1), (.t 4)]) <|
 .op none (.store 1 (.t 4) (.t 5)) <|
 .nil
def Q31_3 : Sts := .op (some 6) (.loadX (.t 4)) <|
 .op (some 7) (.loadS (.t 2)) <|
 .op (some 8) (.callv (.t 6) [(.c (.slice none 0 0)), (.t 7)]) <|
 .nil
def Q31 : RFun := ⟨9, [0, 1, 2, 3, 4], (.seq (.reg Q31_0) (.seq (.reg Q31_1) (.seq (.reg Q31_2) (.reg Q31_3)))), []⟩
theorem Q31_ok : compF Tryz.prog [0, 1, 2, 3, 4] [15, 20, 31, 71, 88, 41, 76, 86, 65, 83, 81, 114, 117, 119, 122, 68, 100, 103, 104, 105, 137, 138, 64, 72, 96, 99, 158, 159, 132, 56, 93, 94, 130, 131, 155, 62, 23, 170] 115 = some Q31 := by kernel_rfl

/- (lockless/axiom.program).merges$1$1 -/
def Q32_0 : Sts := .op (some 7) (.mv (.c (.bool false))) <|
 .nil
def Q32_1 : Sts := .op (some 11) (.mv (.t 1)) <|
 .op (some 12) (.len (.t 11)) <|
 .op (some 13) (.bin .eql (.t 12) (.c (.int .i64 0))) <|
 .nil
def Q32_2 : AT := .q (.op 0 (some 14) (.loadX (.t 2)) <|
 .op 1 (some 15) (.mv (.t 0)) <|
 .nil) <|
 .s 2 (some 16) (.call 113 [(.t 15)]) false (
 .q (.nil) <|
 .s 3 (some 17) (.callv (.t 14) [(.t 16)]) true (
 .q (.op 4 (some 7) (.mv (.t 17)) <|
 .nil) <|
 .fin) <|
 .no) <|
 .no
def Q32_3 : Sts := .op (some 18) (.mv (.t 1)) <|
 .op (some 19) (.len (.t 18)) <|
 .op (some 20) (.mv (.c (.int .i64 0))) <|
 .nil
def Q32_4 : Sts := .op (some 21) (.bin .lss (.t 20) (.t 19)) <|
 .nil
def Q32_5 : Sts := .op (some 22) (.mv (.t 20)) <|
 .op (some 23) (.iaddrS 1 (.t 18) (.t 20)) <|
 .op (some 24) (.loadI .i64 (.t 23)) <|
 .op (some 9) (.alloc 3 [(.int .i64 0)]) <|
 .op (some 8) (.mv (.t 22)) <|
 .op none (.store 1 (.t 9) (.t 24)) <|
 .nil
def Q32_6 : Sts := .op (some 25) (.mv (.t 1)) <|
 .op (some 26) (.mv (.t 8)) <|
 .op (some 27) (.slS 1 (.t 25) none (some (.t 26)) none) <|
 .op (some 28) (.mkfn 118 [] [(.t 3), (.t 9)]) <|
 .op (some 29) (.call 117 [(.t 27), (.t 28)]) <|
 .op (some 10) (.mv (.t 29)) <|
 .nil
def Q32_7 : AT := .q (.op 0 (some 30) (.mv (.t 10)) <|
 .op 1 (some 31) (.notb (.t 30)) <|
 .op 2 (some 32) (.mv (.t 31)) <|
 .nil) <|
 .br 32 (
 .q (.nil) <|
 .q (.op 3 (some 33) (.loadX (.t 4)) <|
 .nil) <|
 .q (.nil) <|
 .q (.op 4 (some 34) (.mv (.t 0)) <|
 .nil) <|
 .q (.nil) <|
 .q (.op 5 (some 35) (.call 119 [(.t 34)]) <|
 .nil) <|
 .q (.nil) <|
 .q (.op 6 (some 36) (.loadI .i64 (.t 9)) <|
 .nil) <|
 .q (.nil) <|
 .q (.op 9 (some 39) (.mv (.t 1)) <|
 .nil) <|
 .q (.nil) <|
 .q (.op 10 (some 40) (.mv (.t 8)) <|
 .nil) <|
 .q (.nil) <|
 .q (.op 11 (some 41) (.slS 1 (.t 39) none (some (.t 40)) none) <|
 .nil) <|
 .q (.nil) <|
 .q (.op 12 (some 42) (.mv (.t 1)) <|
 .nil) <|
 .q (.nil) <|
 .q (.op 13 (some 43) (.mv (.t 8)) <|
 .nil) <|
 .q (.nil) <|
 .q (.op 14 (some 44) (.bin .add (.t 43) (.c (.int .i64 1))) <|
 .nil) <|
 .q (.nil) <|
 .q (.op 15 (some 45) (.slS 1 (.t 42) (some (.t 44)) none none) <|
 .nil) <|
 .q (.nil) <|
 .s 7 (some 37) (.buildSl 3 1 [(.int .i64 0)] [(0, 1, (.t 36))]) false (
 .q (.nil) <|
 .s 8 (some 38) (.append 3 1 8 [(.int .i64 0)] (.t 35) (.t 37)) false (
 .q (.nil) <|
 .s 16 (some 46) (.buildSl 34 2 [(.slice none 0 0), (.slice none 0 0)] [(0, 1, (.t 41)), (1, 1, (.t 45))]) false (
 .q (.nil) <|
 .s 17 (some 47) (.call 120 [(.t 46)]) false (
 .q (.nil) <|
 .s 18 (some 48) (.callv (.t 33) [(.t 38), (.t 47)]) true (
 .q (.g 32 true (
 .op 19 (some 49) (.notb (.t 48)) <|
 .nil) 20 50 (.t 49) <|
 .nil) <|
 .fin) <|
 .no) <|
 .no) <|
 .no) <|
 .s 16 (some 46) (.buildSl 34 2 [(.slice none 0 0), (.slice none 0 0)] [(0, 1, (.t 41)), (1, 1, (.t 45))]) false (
 .q (.nil) <|
 .s 8 (some 38) (.append 3 1 8 [(.int .i64 0)] (.t 35) (.t 37)) false (
 .q (.nil) <|
 .s 17 (some 47) (.call 120 [(.t 46)]) false (
 .q (.nil) <|
 .s 18 (some 48) (.callv (.t 33) [(.t 38), (.t 47)]) true (
 .q (.g 32 true (
 .op 19 (some 49) (.notb (.t 48)) <|
 .nil) 20 50 (.t 49) <|
 .nil) <|
 .fin) <|
 .no) <|
 .no) <|
 .no) <|
 .no) <|
 .s 16 (some 46) (.buildSl 34 2 [(.slice none 0 0), (.slice none 0 0)] [(0, 1, (.t 41)), (1, 1, (.t 45))]) false (
 .q (.nil) <|
 .s 7 (some 37) (.buildSl 3 1 [(.int .i64 0)] [(0, 1, (.t 36))]) false (
 .q (.nil) <|
 .s 8 (some 38) (.append 3 1 8 [(.int .i64 0)] (.t 35) (.t 37)) false (
 .q (.nil) <|
 .s 17 (some 47) (.call 120 [(.t 46)]) false (
 .q (.nil) <|
 .s 18 (some 48) (.callv (.t 33) [(.t 38), (.t 47)]) true (
 .q (.g 32 true (
 .op 19 (some 49) (.notb (.t 48)) <|
 .nil) 20 50 (.t 49) <|
 .nil) <|
 .fin) <|
 .no) <|
 .no) <|
 .no) <|
 .no) <|
 .no) <|
 .q (.nil) <|
 .sk 3 (some 33) <|
 .q (.nil) <|
 .sk 4 (some 34) <|
 .q (.nil) <|
 .sk 5 (some 35) <|
 .q (.nil) <|
 .sk 6 (some 36) <|
 .q (.nil) <|
 .sk 7 (some 37) <|
 .q (.nil) <|
 .sk 8 (some 38) <|
 .q (.nil) <|
 .sk 9 (some 39) <|
 .q (.nil) <|
 .sk 10 (some 40) <|
 .q (.nil) <|
 .sk 11 (some 41) <|
 .q (.nil) <|
 .sk 12 (some 42) <|
 .q (.nil) <|
 .sk 13 (some 43) <|
 .q (.nil) <|
 .sk 14 (some 44) <|
 .q (.nil) <|
 .sk 15 (some 45) <|
 .q (.nil) <|
 .sk 16 (some 46) <|
 .q (.nil) <|
 .sk 17 (some 47) <|
 .q (.nil) <|
 .sk 18 (some 48) <|
 .q (.g 32 true (
 .op 19 (some 49) (.notb (.t 48)) <|
 .nil) 20 50 (.t 49) <|
 .nil) <|
 .fin
def Q32_8 : Sts := .op (some 7) (.mv (.c (.bool false))) <|
 .nil
def Q32_9 : Sts := .op (some 51) (.bin .add (.t 20) (.c (.int .i64 1))) <|
 .op (some 20) (.mv (.t 51)) <|
 .nil
def Q32_L10 : RCode := (.seq (.reg Q32_4) (.seq (.cond (.t 21) .skip (.exit 0)) (.seq (.block 1 (.seq (.reg Q32_5) (.seq (.reg Q32_6) (.seq (.any Q32_7) (.cond (.t 50) (.seq (.reg Q32_8) .ret) .skip))))) (.reg Q32_9))))
def Q32_10 : Sts := .op (some 7) (.mv (.c (.bool true))) <|
 .nil
def Q32 : RFun := ⟨52, [0, 1, 2, 3, 4, 7, 8, 9, 10, 18, 19, 20], (.seq (.reg Q32_0) (.seq (.seq (.reg Q32_1) (.cond (.t 13) (.seq (.any Q32_2) .ret) .skip)) (.seq (.seq (.reg Q32_3) (.block 0 (.loop Q32_L10))) (.seq (.reg Q32_10) .ret)))), [.tmp 7]⟩
theorem Q32_ok : compF Tryz.prog [0, 1, 2, 3, 4, 7, 8, 9, 10, 18, 19, 20] [15, 20, 31, 71, 88, 41, 76, 86, 65, 83, 81, 114, 117, 119, 122, 68, 100, 103, 104, 105, 137, 138, 64, 72, 96, 99, 158, 159, 132, 56, 93, 94, 130, 131, 155, 62, 23, 170] 116 = some Q32 := by kernel_rfl

/- slices.ContainsFunc[[]int,int] -/
def Q82_0 : Sts := .op (some 4) (.mv (.c (.bool false))) <|
 .nil
def Q82_1 : Sts := .op (some 5) (.mv (.t 0)) <|
 .op (some 6) (.mv (.t 1)) <|
 .op (some 7) (.call 140 [(.t 5), (.t 6)]) <|
 .op (some 8) (.bin .geq (.t 7) (.c (.int .i64 0))) <|
 .op (some 4) (.mv (.t 8)) <|
 .nil
def Q82 : RFun := ⟨9, [0, 1, 4], (.seq (.reg Q82_0) (.seq (.reg Q82_1) .ret)), [.tmp 4]⟩
theorem Q82_ok : compF Tryz.prog [0, 1, 4] [15, 20, 31, 71, 88, 41, 76, 86, 65, 83, 81, 114, 117, 119, 122, 68, 100, 103, 104, 105, 137, 138, 64, 72, 96, 99, 158, 159, 132, 56, 93, 94, 130, 131, 155, 62, 23, 170] 117 = some Q82 := by kernel_rfl

/- (lockless/axiom.program).merges$1$1$1 -/
def Q33_0 : Sts := .op (some 4) (.mv (.c (.bool false))) <|
 .nil
def Q33_1 : AT := .q (.op 0 (some 5) (.loadS (.t 1)) <|
 .op 1 (some 6) (.mv (.t 0)) <|
 .op 2 (some 7) (.iaddrS 6 (.t 5) (.t 6)) <|
 .op 3 (some 8) (.faddr 5 (.t 7)) <|
 .op 4 (some 9) (.loadI .i64 (.t 8)) <|
 .op 5 (some 10) (.loadS (.t 1)) <|
 .op 6 (some 11) (.loadI .i64 (.t 2)) <|
 .op 7 (some 12) (.iaddrS 6 (.t 10) (.t 11)) <|
 .op 8 (some 13) (.faddr 5 (.t 12)) <|
 .op 9 (some 14) (.loadI .i64 (.t 13)) <|
 .op 10 (some 15) (.bin .eql (.t 9) (.t 14)) <|
 .op 11 (some 4) (.mv (.t 15)) <|
 .nil) <|
 .fin
def Q33 : RFun := ⟨16, [0, 1, 2, 4], (.seq (.reg Q33_0) (.seq (.any Q33_1) .ret)), [.tmp 4]⟩
theorem Q33_ok : compF Tryz.prog [0, 1, 2, 4] [15, 20, 31, 71, 88, 41, 76, 86, 65, 83, 81, 114, 117, 119, 122, 68, 100, 103, 104, 105, 137, 138, 64, 72, 96, 99, 158, 159, 132, 56, 93, 94, 130, 131, 155, 62, 23, 170] 118 = some Q33 := by kernel_rfl

/- slices.Clip[[]int,int] -/
def Q75_0 : Sts := .op (some 2) (.mv (.c (.slice none 0 0))) <|
 .nil
def Q75_1 : Sts := .op (some 3) (.mv (.t 0)) <|
 .op (some 4) (.mv (.t 0)) <|
 .op (some 5) (.len (.t 4)) <|
 .op (some 6) (.mv (.t 0)) <|
 .op (some 7) (.len (.t 6)) <|
 .op (some 8) (.slS 1 (.t 3) none (some (.t 5)) (some (.t 7))) <|
 .op (some 2) (.mv (.t 8)) <|
 .nil
def Q75 : RFun := ⟨9, [0, 2], (.seq (.reg Q75_0) (.seq (.reg Q75_1) .ret)), [.tmp 2]⟩
theorem Q75_ok : compF Tryz.prog [0, 2] [15, 20, 31, 71, 88, 41, 76, 86, 65, 83, 81, 114, 117, 119, 122, 68, 100, 103, 104, 105, 137, 138, 64, 72, 96, 99, 158, 159, 132, 56, 93, 94, 130, 131, 155, 62, 23, 170] 119 = some Q75 := by kernel_rfl

/- slices.Concat[[]int,int] -/
def Q81_0 : Sts := .op (some 2) (.mv (.c (.slice none 0 0))) <|
 .nil
def Q81_1 : Sts := .op (some 3) (.mv (.c (.int .i64 0))) <|
 .nil
def Q81_2 : Sts := .op (some 9) (.mv (.t 0)) <|
 .op (some 10) (.len (.t 9)) <|
 .op (some 11) (.mv (.c (.int .i64 0))) <|
 .nil
def Q81_3 : Sts := .op (some 12) (.bin .lss (.t 11) (.t 10)) <|
 .nil
def Q81_4 : Sts := .op (some 13) (.iaddrS 1 (.t 9) (.t 11)) <|
 .op (some 14) (.loadS (.t 13)) <|
 .op (some 5) (.mv (.t 14)) <|
 .nil
def Q81_5 : Sts := .op (some 15) (.mv (.t 3)) <|
 .op (some 16) (.mv (.t 5)) <|
 .op (some 17) (.len (.t 16)) <|
 .op (some 18) (.bin .add (.t 15) (.t 17)) <|
 .op (some 3) (.mv (.t 18)) <|
 .nil
def Q81_6 : Sts := .op (some 19) (.mv (.t 3)) <|
 .op (some 20) (.bin .lss (.t 19) (.c (.int .i64 0))) <|
 .nil
def Q81_7 : Sts := .op (some 21) (.bad) <|
 .op none (.bad) <|
 .nil
def Q81_8 : Sts := .op (some 22) (.bin .add (.t 11) (.c (.int .i64 1))) <|
 .op (some 11) (.mv (.t 22)) <|
 .nil
def Q81_L9 : RCode := (.seq (.reg Q81_3) (.seq (.cond (.t 12) .skip (.exit 0)) (.seq (.block 1 (.seq (.reg Q81_4) (.seq (.reg Q81_5) (.seq (.reg Q81_6) (.cond (.t 20) (.reg Q81_7) .skip))))) (.reg Q81_8))))
def Q81_9 : Sts := .op (some 23) (.mv (.t 3)) <|
 .op (some 24) (.call 141 [(.c (.slice none 0 0)), (.t 23)]) <|
 .op (some 6) (.mv (.t 24)) <|
 .nil
def Q81_10 : Sts := .op (some 25) (.mv (.t 0)) <|
 .op (some 26) (.len (.t 25)) <|
 .op (some 27) (.mv (.c (.int .i64 0))) <|
 .nil
def Q81_11 : Sts := .op (some 28) (.bin .lss (.t 27) (.t 26)) <|
 .nil
def Q81_12 : Sts := .op (some 29) (.iaddrS 1 (.t 25) (.t 27)) <|
 .op (some 30) (.loadS (.t 29)) <|
 .op (some 8) (.mv (.t 30)) <|
 .nil
def Q81_13 : Sts := .op (some 31) (.mv (.t 6)) <|
 .op (some 32) (.mv (.t 8)) <|
 .op (some 33) (.append 3 1 8 [(.int .i64 0)] (.t 31) (.t 32)) <|
 .op (some 6) (.mv (.t 33)) <|
 .nil
def Q81_14 : Sts := .op (some 34) (.bin .add (.t 27) (.c (.int .i64 1))) <|
 .op (some 27) (.mv (.t 34)) <|
 .nil
def Q81_L15 : RCode := (.seq (.reg Q81_11) (.seq (.cond (.t 28) .skip (.exit 2)) (.seq (.block 3 (.seq (.reg Q81_12) (.reg Q81_13))) (.reg Q81_14))))
def Q81_15 : Sts := .op (some 35) (.mv (.t 6)) <|
 .op (some 2) (.mv (.t 35)) <|
 .nil
def Q81 : RFun := ⟨36, [0, 2, 3, 5, 6, 8, 9, 10, 11, 25, 26, 27], (.seq (.reg Q81_0) (.seq (.reg Q81_1) (.seq (.seq (.reg Q81_2) (.block 0 (.loop Q81_L9))) (.seq (.reg Q81_9) (.seq (.seq (.reg Q81_10) (.block 2 (.loop Q81_L15))) (.seq (.reg Q81_15) .ret)))))), [.tmp 2]⟩
theorem Q81_ok : compF Tryz.prog [0, 2, 3, 5, 6, 8, 9, 10, 11, 25, 26, 27] [15, 20, 31, 71, 88, 41, 76, 86, 65, 83, 81, 114, 117, 119, 122, 68, 100, 103, 104, 105, 137, 138, 64, 72, 96, 99, 158, 159, 132, 56, 93, 94, 130, 131, 155, 62, 23, 170] 120 = some Q81 := by kernel_rfl

/- (lockless/axiom.relation).put -/
def Q49_0 : AT := .q (.op 0 (some 6) (.mv (.t 0)) <|
 .op 1 (some 7) (.mv (.t 1)) <|
 .op 2 (some 8) (.iaddrS 1 (.t 6) (.t 7)) <|
 .op 3 (some 9) (.loadI .u32 (.t 8)) <|
 .op 4 (some 10) (.mv (.t 2)) <|
 .op 5 (some 11) (.bin .shl (.c (.int .u32 1)) (.t 10)) <|
 .op 6 (some 12) (.bin .or (.t 9) (.t 11)) <|
 .op 7 (some 13) (.iaddrS 1 (.t 6) (.t 7)) <|
 .nil) <|
 .s 8 none (.store 1 (.t 13) (.t 12)) true (
 .q (.nil) <|
 .fin) <|
 .no
def Q49 : RFun := ⟨14, [0, 1, 2], (.any Q49_0), []⟩
theorem Q49_ok : compF Tryz.prog [0, 1, 2] [15, 20, 31, 71, 88, 41, 76, 86, 65, 83, 81, 114, 117, 119, 122, 68, 100, 103, 104, 105, 137, 138, 64, 72, 96, 99, 158, 159, 132, 56, 93, 94, 130, 131, 155, 62, 23, 170] 121 = some Q49 := by kernel_rfl

/- (lockless/axiom.relation).circle -/
def Q46_0 : Sts := .op (some 2) (.mv (.c (.bool false))) <|
 .nil
def Q46_1 : Sts := .op (some 4) (.mv (.t 0)) <|
 .op (some 5) (.len (.t 4)) <|
 .op (some 6) (.mv (.c (.int .i64 0))) <|
 .nil
def Q46_2 : Sts := .op (some 7) (.bin .lss (.t 6) (.t 5)) <|
 .nil
def Q46_3 : Sts := .op (some 8) (.mv (.t 6)) <|
 .op (some 3) (.mv (.t 8)) <|
 .nil
def Q46_4 : Sts := .op (some 9) (.mv (.t 0)) <|
 .op (some 10) (.mv (.t 3)) <|
 .op (some 11) (.mv (.t 3)) <|
 .op (some 12) (.call 68 [(.t 9), (.t 10), (.t 11)]) <|
 .nil
def Q46_5 : Sts := .op (some 2) (.mv (.c (.bool true))) <|
 .nil
def Q46_6 : Sts := .op (some 13) (.bin .add (.t 6) (.c (.int .i64 1))) <|
 .op (some 6) (.mv (.t 13)) <|
 .nil
def Q46_L7 : RCode := (.seq (.reg Q46_2) (.seq (.cond (.t 7) .skip (.exit 0)) (.seq (.block 1 (.seq (.reg Q46_3) (.seq (.reg Q46_4) (.cond (.t 12) (.seq (.reg Q46_5) .ret) .skip)))) (.reg Q46_6))))
def Q46_7 : Sts := .op (some 2) (.mv (.c (.bool false))) <|
 .nil
def Q46 : RFun := ⟨14, [0, 2, 3, 5, 6], (.seq (.reg Q46_0) (.seq (.seq (.reg Q46_1) (.block 0 (.loop Q46_L7))) (.seq (.reg Q46_7) .ret))), [.tmp 2]⟩
theorem Q46_ok : compF Tryz.prog [0, 2, 3, 5, 6] [15, 20, 31, 71, 88, 41, 76, 86, 65, 83, 81, 114, 117, 119, 122, 68, 100, 103, 104, 105, 137, 138, 64, 72, 96, 99, 158, 159, 132, 56, 93, 94, 130, 131, 155, 62, 23, 170] 122 = some Q46 := by kernel_rfl

/- (lockless/axiom.program).communication -/
def Q15_0 : Sts := .op (some 3) (.box 45 (.t 1)) <|
 .op (some 4) (.mv (.c (.slice none 0 0))) <|
 .nil
def Q15_1 : Sts := .op (some 17) (.mv (.t 0)) <|
 .op (some 18) (.call 136 [(.t 17)]) <|
 .op (some 5) (.mv (.t 18)) <|
 .nil
def Q15_2 : Sts := .op (some 19) (.faddr 2 (.t 3)) <|
 .op (some 20) (.loadS (.t 19)) <|
 .op (some 21) (.len (.t 20)) <|
 .op (some 22) (.mv (.c (.int .i64 0))) <|
 .nil
def Q15_3 : Sts := .op (some 23) (.bin .lss (.t 22) (.t 21)) <|
 .nil
def Q15_4 : Sts := .op (some 24) (.iaddrS 1 (.t 20) (.t 22)) <|
 .op (some 25) (.loadS (.t 24)) <|
 .op (some 7) (.mv (.t 25)) <|
 .nil
def Q15_5 : Sts := .op (some 26) (.mv (.t 7)) <|
 .op (some 27) (.len (.t 26)) <|
 .op (some 28) (.mv (.c (.int .i64 0))) <|
 .nil
def Q15_6 : Sts := .op (some 29) (.bin .lss (.t 28) (.t 27)) <|
 .nil
def Q15_7 : Sts := .op (some 30) (.mv (.t 28)) <|
 .op (some 31) (.iaddrS 1 (.t 26) (.t 28)) <|
 .op (some 32) (.loadI .i64 (.t 31)) <|
 .op (some 8) (.mv (.t 30)) <|
 .op (some 9) (.mv (.t 32)) <|
 .nil
def Q15_8 : Sts := .op (some 33) (.mv (.t 7)) <|
 .op (some 34) (.mv (.t 8)) <|
 .op (some 35) (.bin .add (.t 34) (.c (.int .i64 1))) <|
 .op (some 36) (.slS 1 (.t 33) (some (.t 35)) none none) <|
 .op (some 37) (.len (.t 36)) <|
 .op (some 38) (.mv (.c (.int .i64 0))) <|
 .nil
def Q15_9 : Sts := .op (some 39) (.bin .lss (.t 38) (.t 37)) <|
 .nil
def Q15_10 : Sts := .op (some 40) (.iaddrS 1 (.t 36) (.t 38)) <|
 .op (some 41) (.loadI .i64 (.t 40)) <|
 .op (some 11) (.mv (.t 41)) <|
 .nil
def Q15_11 : Sts := .op (some 42) (.mv (.t 5)) <|
 .op (some 43) (.mv (.t 9)) <|
 .op (some 44) (.mv (.t 11)) <|
 .op (some 45) (.call 121 [(.t 42), (.t 43), (.t 44)]) <|
 .nil
def Q15_12 : Sts := .op (some 46) (.bin .add (.t 38) (.c (.int .i64 1))) <|
 .op (some 38) (.mv (.t 46)) <|
 .nil
def Q15_L13 : RCode := (.seq (.reg Q15_9) (.seq (.cond (.t 39) .skip (.exit 4)) (.seq (.block 5 (.seq (.reg Q15_10) (.reg Q15_11))) (.reg Q15_12))))
def Q15_13 : Sts := .op (some 47) (.bin .add (.t 28) (.c (.int .i64 1))) <|
 .op (some 28) (.mv (.t 47)) <|
 .nil
def Q15_L14 : RCode := (.seq (.reg Q15_6) (.seq (.cond (.t 29) .skip (.exit 2)) (.seq (.block 3 (.seq (.reg Q15_7) (.seq (.reg Q15_8) (.block 4 (.loop Q15_L13))))) (.reg Q15_13))))
def Q15_14 : Sts := .op (some 48) (.bin .add (.t 22) (.c (.int .i64 1))) <|
 .op (some 22) (.mv (.t 48)) <|
 .nil
def Q15_L15 : RCode := (.seq (.reg Q15_3) (.seq (.cond (.t 23) .skip (.exit 0)) (.seq (.block 1 (.seq (.reg Q15_4) (.seq (.reg Q15_5) (.block 2 (.loop Q15_L14))))) (.reg Q15_14))))
def Q15_15 : Sts := .op (some 49) (.faddr 0 (.t 3)) <|
 .op (some 50) (.loadS (.t 49)) <|
 .op (some 51) (.len (.t 50)) <|
 .op (some 52) (.mv (.c (.int .i64 0))) <|
 .nil
def Q15_16 : Sts := .op (some 53) (.bin .lss (.t 52) (.t 51)) <|
 .nil
def Q15_17 : Sts := .op (some 54) (.mv (.t 52)) <|
 .op (some 55) (.iaddrS 1 (.t 50) (.t 52)) <|
 .op (some 56) (.loadI .i64 (.t 55)) <|
 .op (some 12) (.mv (.t 54)) <|
 .op (some 13) (.mv (.t 56)) <|
 .nil
def Q15_18 : Sts := .op (some 57) (.mv (.t 0)) <|
 .op (some 58) (.mv (.t 12)) <|
 .op (some 59) (.iaddrS 6 (.t 57) (.t 58)) <|
 .op (some 60) (.loadA 6 (.t 59)) <|
 .op (some 61) (.call 86 [(.t 60)]) <|
 .op (some 62) (.notb (.t 61)) <|
 .nil
def Q15_19 : Sts := .op (some 63) (.mv (.t 13)) <|
 .op (some 64) (.bin .geq (.t 63) (.c (.int .i64 0))) <|
 .nil
def Q15_20 : Sts := .op (some 65) (.mv (.t 5)) <|
 .op (some 66) (.mv (.t 13)) <|
 .op (some 67) (.mv (.t 12)) <|
 .op (some 68) (.call 121 [(.t 65), (.t 66), (.t 67)]) <|
 .nil
def Q15_21 : Sts := .op (some 69) (.mv (.t 13)) <|
 .op (some 70) (.bin .eql (.t 69) (.c (.int .i64 (-1)))) <|
 .op (some 14) (.mv (.t 70)) <|
 .nil
def Q15_22 : AT := .q (.op 0 (some 71) (.faddr 2 (.t 3)) <|
 .op 1 (some 72) (.loadS (.t 71)) <|
 .op 2 (some 73) (.mv (.t 0)) <|
 .op 3 (some 74) (.mv (.t 12)) <|
 .op 4 (some 75) (.iaddrS 6 (.t 73) (.t 74)) <|
 .op 5 (some 76) (.faddr 0 (.t 75)) <|
 .op 6 (some 77) (.faddr 1 (.t 76)) <|
 .op 7 (some 78) (.loadI .i64 (.t 77)) <|
 .op 8 (some 79) (.iaddrS 1 (.t 72) (.t 78)) <|
 .op 9 (some 80) (.loadS (.t 79)) <|
 .op 10 (some 81) (.len (.t 80)) <|
 .op 11 (some 82) (.mv (.c (.int .i64 0))) <|
 .nil) <|
 .fin
def Q15_23 : Sts := .op (some 83) (.bin .lss (.t 82) (.t 81)) <|
 .nil
def Q15_24 : Sts := .op (some 84) (.iaddrS 1 (.t 80) (.t 82)) <|
 .op (some 85) (.loadI .i64 (.t 84)) <|
 .op (some 16) (.mv (.t 85)) <|
 .nil
def Q15_25 : Sts := .op (some 86) (.mv (.t 14)) <|
 .op (some 87) (.mv (.t 86)) <|
 .cnd 87 true (
 .op (some 88) (.mv (.t 16)) <|
 .op (some 89) (.mv (.t 12)) <|
 .op (some 90) (.bin .neq (.t 88) (.t 89)) <|
 .nil) 91 (.t 90) <|
 .nil
def Q15_26 : Sts := .op (some 92) (.mv (.t 5)) <|
 .op (some 93) (.mv (.t 12)) <|
 .op (some 94) (.mv (.t 16)) <|
 .op (some 95) (.call 121 [(.t 92), (.t 93), (.t 94)]) <|
 .nil
def Q15_27 : Sts := .op (some 96) (.mv (.t 14)) <|
 .op (some 97) (.mv (.t 96)) <|
 .cnd 97 false (
 .op (some 98) (.mv (.t 16)) <|
 .op (some 99) (.mv (.t 13)) <|
 .op (some 100) (.bin .eql (.t 98) (.t 99)) <|
 .nil) 101 (.t 100) <|
 .op (some 14) (.mv (.t 101)) <|
 .nil
def Q15_28 : Sts := .op (some 102) (.bin .add (.t 82) (.c (.int .i64 1))) <|
 .op (some 82) (.mv (.t 102)) <|
 .nil
def Q15_L29 : RCode := (.seq (.reg Q15_23) (.seq (.cond (.t 83) .skip (.exit 8)) (.seq (.block 9 (.seq (.reg Q15_24) (.seq (.seq (.reg Q15_25) (.cond (.t 91) (.reg Q15_26) .skip)) (.reg Q15_27)))) (.reg Q15_28))))
def Q15_29 : Sts := .op (some 103) (.bin .add (.t 52) (.c (.int .i64 1))) <|
 .op (some 52) (.mv (.t 103)) <|
 .nil
def Q15_L30 : RCode := (.seq (.reg Q15_16) (.seq (.cond (.t 53) .skip (.exit 6)) (.seq (.block 7 (.seq (.reg Q15_17) (.seq (.seq (.reg Q15_18) (.cond (.t 62) (.exit 7) .skip)) (.seq (.seq (.reg Q15_19) (.cond (.t 64) (.reg Q15_20) .skip)) (.seq (.reg Q15_21) (.seq (.any Q15_22) (.block 8 (.loop Q15_L29)))))))) (.reg Q15_29))))
def Q15_30 : Sts := .op (some 104) (.mv (.t 5)) <|
 .op (some 105) (.call 106 [(.t 104)]) <|
 .op (some 4) (.mv (.t 105)) <|
 .nil
def Q15 : RFun := ⟨106, [0, 1, 3, 4, 5, 7, 8, 9, 11, 12, 13, 14, 16, 20, 21, 22, 26, 27, 28, 36, 37, 38, 50, 51, 52, 80, 81, 82], (.seq (.reg Q15_0) (.seq (.reg Q15_1) (.seq (.seq (.reg Q15_2) (.block 0 (.loop Q15_L15))) (.seq (.seq (.reg Q15_15) (.block 6 (.loop Q15_L30))) (.seq (.reg Q15_30) .ret))))), [.tmp 4]⟩
theorem Q15_ok : compF Tryz.prog [0, 1, 3, 4, 5, 7, 8, 9, 11, 12, 13, 14, 16, 20, 21, 22, 26, 27, 28, 36, 37, 38, 50, 51, 52, 80, 81, 82] [15, 20, 31, 71, 88, 41, 76, 86, 65, 83, 81, 114, 117, 119, 122, 68, 100, 103, 104, 105, 137, 138, 64, 72, 96, 99, 158, 159, 132, 56, 93, 94, 130, 131, 155, 62, 23, 170] 123 = some Q15 := by kernel_rfl

/- slices.Clone[[]bool,bool] -/
def Q76_0 : Sts := .op (some 2) (.mv (.c (.slice none 0 0))) <|
 .nil
def Q76_1 : Sts := .op (some 3) (.mv (.t 0)) <|
 .op (some 4) (.eqS false (.t 3)) <|
 .nil
def Q76_2 : Sts := .op (some 2) (.mv (.c (.slice none 0 0))) <|
 .nil
def Q76_3 : Sts := .op (some 5) (.buildSl 4 0 [] []) <|
 .op (some 6) (.mv (.t 0)) <|
 .op (some 7) (.append 4 1 1 [(.bool false)] (.t 5) (.t 6)) <|
 .op (some 2) (.mv (.t 7)) <|
 .nil
def Q76 : RFun := ⟨8, [0, 2], (.seq (.reg Q76_0) (.seq (.seq (.reg Q76_1) (.cond (.t 4) (.seq (.reg Q76_2) .ret) .skip)) (.seq (.reg Q76_3) .ret))), [.tmp 2]⟩
theorem Q76_ok : compF Tryz.prog [0, 2] [15, 20, 31, 71, 88, 41, 76, 86, 65, 83, 81, 114, 117, 119, 122, 68, 100, 103, 104, 105, 137, 138, 64, 72, 96, 99, 158, 159, 132, 56, 93, 94, 130, 131, 155, 62, 23, 170] 124 = some Q76 := by kernel_rfl

/- cmp.Compare[int] -/
def Q51_0 : Sts := .op (some 4) (.mv (.c (.int .i64 0))) <|
 .nil
def Q51_1 : Sts := .op (some 7) (.mv (.t 0)) <|
 .op (some 8) (.call 152 [(.t 7)]) <|
 .op (some 5) (.mv (.t 8)) <|
 .nil
def Q51_2 : Sts := .op (some 9) (.mv (.t 1)) <|
 .op (some 10) (.call 152 [(.t 9)]) <|
 .op (some 6) (.mv (.t 10)) <|
 .nil
def Q51_3 : Sts := .op (some 11) (.mv (.t 5)) <|
 .nil
def Q51_4 : Sts := .op (some 12) (.mv (.t 6)) <|
 .nil
def Q51_5 : Sts := .op (some 4) (.mv (.c (.int .i64 0))) <|
 .nil
def Q51_6 : Sts := .op (some 4) (.mv (.c (.int .i64 (-1)))) <|
 .nil
def Q51_7 : Sts := .op (some 13) (.mv (.t 6)) <|
 .nil
def Q51_8 : Sts := .op (some 4) (.mv (.c (.int .i64 1))) <|
 .nil
def Q51_9 : Sts := .op (some 14) (.mv (.t 0)) <|
 .op (some 15) (.mv (.t 1)) <|
 .op (some 16) (.bin .lss (.t 14) (.t 15)) <|
 .nil
def Q51_10 : Sts := .op (some 4) (.mv (.c (.int .i64 (-1)))) <|
 .nil
def Q51_11 : Sts := .op (some 17) (.mv (.t 0)) <|
 .op (some 18) (.mv (.t 1)) <|
 .op (some 19) (.bin .gtr (.t 17) (.t 18)) <|
 .nil
def Q51_12 : Sts := .op (some 4) (.mv (.c (.int .i64 1))) <|
 .nil
def Q51_13 : Sts := .op (some 4) (.mv (.c (.int .i64 0))) <|
 .nil
def Q51 : RFun := ⟨20, [0, 1, 4, 5, 6], (.seq (.reg Q51_0) (.seq (.reg Q51_1) (.seq (.reg Q51_2) (.seq (.seq (.reg Q51_3) (.cond (.t 11) (.seq (.seq (.reg Q51_4) (.cond (.t 12) (.seq (.reg Q51_5) .ret) .skip)) (.seq (.reg Q51_6) .ret)) .skip)) (.seq (.seq (.reg Q51_7) (.cond (.t 13) (.seq (.reg Q51_8) .ret) .skip)) (.seq (.seq (.reg Q51_9) (.cond (.t 16) (.seq (.reg Q51_10) .ret) .skip)) (.seq (.seq (.reg Q51_11) (.cond (.t 19) (.seq (.reg Q51_12) .ret) .skip)) (.seq (.reg Q51_13) .ret)))))))), [.tmp 4]⟩
theorem Q51_ok : compF Tryz.prog [0, 1, 4, 5, 6] [15, 20, 31, 71, 88, 41, 76, 86, 65, 83, 81, 114, 117, 119, 122, 68, 100, 103, 104, 105, 137, 138, 64, 72, 96, 99, 158, 159, 132, 56, 93, 94, 130, 131, 155, 62, 23, 170] 127 = some Q51 := by kernel_rfl

/- lockless/order.bits -/
def Q71_0 : Sts := .op (some 2) (.mv (.c (.int .i64 0))) <|
 .nil
def Q71_1 : Sts := .op (some 3) (.mv (.t 0)) <|
 .op (some 4) (.bin .eql (.t 3) (.c (.int .i64 4))) <|
 .nil
def Q71_2 : Sts := .op (some 2) (.mv (.c (.int .i64 7))) <|
 .nil
def Q71_3 : Sts := .op (some 5) (.mv (.t 0)) <|
 .op (some 2) (.mv (.t 5)) <|
 .nil
def Q71 : RFun := ⟨6, [0, 2], (.seq (.reg Q71_0) (.seq (.seq (.reg Q71_1) (.cond (.t 4) (.seq (.reg Q71_2) .ret) .skip)) (.seq (.reg Q71_3) .ret))), [.tmp 2]⟩
theorem Q71_ok : compF Tryz.prog [0, 2] [15, 20, 31, 71, 88, 41, 76, 86, 65, 83, 81, 114, 117, 119, 122, 68, 100, 103, 104, 105, 137, 138, 64, 72, 96, 99, 158, 159, 132, 56, 93, 94, 130, 131, 155, 62, 23, 170] 132 = some Q71 := by kernel_rfl

/- (lockless/axiom.program).source -/
def Q40_0 : Sts := .op (some 4) (.box 45 (.t 1)) <|
 .op (some 6) (.mv (.c (.bool false))) <|
 .nil
def Q40_1 : Sts := .op (some 8) (.faddr 0 (.t 4)) <|
 .op (some 9) (.loadS (.t 8)) <|
 .op (some 10) (.mv (.t 2)) <|
 .op (some 11) (.iaddrS 1 (.t 9) (.t 10)) <|
 .op (some 12) (.loadI .i64 (.t 11)) <|
 .op (some 7) (.mv (.t 12)) <|
 .nil
def Q40_2 : Sts := .op (some 13) (.mv (.t 0)) <|
 .op (some 14) (.mv (.t 2)) <|
 .op (some 15) (.iaddrS 6 (.t 13) (.t 14)) <|
 .op (some 16) (.loadA 6 (.t 15)) <|
 .op (some 17) (.call 86 [(.t 16)]) <|
 .op (some 18) (.notb (.t 17)) <|
 .nil
def Q40_3 : Sts := .op (some 19) (.mv (.t 7)) <|
 .op (some 20) (.bin .eql (.t 19) (.c (.int .i64 (-2)))) <|
 .op (some 6) (.mv (.t 20)) <|
 .nil
def Q40_4 : Sts := .op (some 21) (.mv (.t 7)) <|
 .op (some 22) (.bin .eql (.t 21) (.c (.int .i64 (-1)))) <|
 .nil
def Q40_5 : Sts := .op (some 6) (.mv (.c (.bool true))) <|
 .nil
def Q40_6 : AT := .q (.op 0 (some 23) (.mv (.t 7)) <|
 .op 1 (some 24) (.bin .geq (.t 23) (.c (.int .i64 0))) <|
 .op 2 (some 25) (.mv (.t 24)) <|
 .g 25 true (
 .op 3 (some 26) (.mv (.t 7)) <|
 .op 4 (some 27) (.mv (.t 0)) <|
 .op 5 (some 28) (.len (.t 27)) <|
 .op 6 (some 29) (.bin .lss (.t 26) (.t 28)) <|
 .nil) 7 30 (.t 29) <|
 .op 8 (some 31) (.mv (.t 30)) <|
 .g 31 true (
 .op 9 (some 32) (.faddr 1 (.t 4)) <|
 .op 10 (some 33) (.loadS (.t 32)) <|
 .op 11 (some 34) (.mv (.t 7)) <|
 .op 12 (some 35) (.iaddrS 1 (.t 33) (.t 34)) <|
 .op 13 (some 36) (.loadB (.t 35)) <|
 .nil) 14 37 (.t 36) <|
 .op 15 (some 38) (.mv (.t 37)) <|
 .g 38 true (
 .op 16 (some 39) (.mv (.t 0)) <|
 .op 17 (some 40) (.mv (.t 7)) <|
 .op 18 (some 41) (.iaddrS 6 (.t 39) (.t 40)) <|
 .op 19 (some 42) (.faddr 0 (.t 41)) <|
 .op 20 (some 43) (.faddr 0 (.t 42)) <|
 .op 21 (some 44) (.loadI .i64 (.t 43)) <|
 .op 22 (some 45) (.bin .neq (.t 44) (.c (.int .i64 5))) <|
 .nil) 23 46 (.t 45) <|
 .op 24 (some 47) (.mv (.t 46)) <|
 .g 47 true (
 .op 25 (some 48) (.mv (.t 0)) <|
 .op 26 (some 49) (.mv (.t 7)) <|
 .op 27 (some 50) (.iaddrS 6 (.t 48) (.t 49)) <|
 .op 28 (some 51) (.faddr 0 (.t 50)) <|
 .op 29 (some 52) (.faddr 1 (.t 51)) <|
 .op 30 (some 53) (.loadI .i64 (.t 52)) <|
 .op 31 (some 54) (.mv (.t 0)) <|
 .op 32 (some 55) (.mv (.t 2)) <|
 .op 33 (some 56) (.iaddrS 6 (.t 54) (.t 55)) <|
 .op 34 (some 57) (.faddr 0 (.t 56)) <|
 .op 35 (some 58) (.faddr 1 (.t 57)) <|
 .op 36 (some 59) (.loadI .i64 (.t 58)) <|
 .op 37 (some 60) (.bin .eql (.t 53) (.t 59)) <|
 .nil) 38 61 (.t 60) <|
 .op 39 (some 6) (.mv (.t 61)) <|
 .nil) <|
 .fin
def Q40 : RFun := ⟨62, [0, 1, 2, 4, 6, 7], (.seq (.reg Q40_0) (.seq (.reg Q40_1) (.seq (.seq (.reg Q40_2) (.cond (.t 18) (.seq (.reg Q40_3) .ret) .skip)) (.seq (.seq (.reg Q40_4) (.cond (.t 22) (.seq (.reg Q40_5) .ret) .skip)) (.seq (.any Q40_6) .ret))))), [.tmp 6]⟩
theorem Q40_ok : compF Tryz.prog [0, 1, 2, 4, 6, 7] [15, 20, 31, 71, 88, 41, 76, 86, 65, 83, 81, 114, 117, 119, 122, 68, 100, 103, 104, 105, 137, 138, 64, 72, 96, 99, 158, 159, 132, 56, 93, 94, 130, 131, 155, 62, 23, 170] 133 = some Q40 := by kernel_rfl

/- lockless/axiom.same -/
def Q50_0 : Sts := .op (some 4) (.mv (.c (.bool false))) <|
 .nil
def Q50_1 : Sts := .op (some 5) (.mv (.t 0)) <|
 .op (some 6) (.call 157 [(.t 5)]) <|
 .op (some 7) (.call 156 [(.t 6)]) <|
 .op (some 8) (.mv (.t 1)) <|
 .op (some 9) (.call 41 [(.t 7), (.t 8)]) <|
 .op (some 4) (.mv (.t 9)) <|
 .nil
def Q50 : RFun := ⟨10, [0, 1, 4], (.seq (.reg Q50_0) (.seq (.reg Q50_1) .ret)), [.tmp 4]⟩
theorem Q50_ok : compF Tryz.prog [0, 1, 4] [15, 20, 31, 71, 88, 41, 76, 86, 65, 83, 81, 114, 117, 119, 122, 68, 100, 103, 104, 105, 137, 138, 64, 72, 96, 99, 158, 159, 132, 56, 93, 94, 130, 131, 155, 62, 23, 170] 134 = some Q50 := by kernel_rfl

/- (lockless/axiom.program).fit$1 -/
def Q26_0 : Sts := .op (some 3) (.mv (.c (.bool false))) <|
 .nil
def Q26_1 : Sts := .op (some 4) (.loadS (.t 1)) <|
 .op (some 5) (.mv (.t 0)) <|
 .op (some 6) (.iaddrS 6 (.t 4) (.t 5)) <|
 .op (some 7) (.loadA 6 (.t 6)) <|
 .op (some 8) (.call 76 [(.t 7)]) <|
 .op (some 3) (.mv (.t 8)) <|
 .nil
def Q26 : RFun := ⟨9, [0, 1, 3], (.seq (.reg Q26_0) (.seq (.reg Q26_1) .ret)), [.tmp 3]⟩
theorem Q26_ok : compF Tryz.prog [0, 1, 3] [15, 20, 31, 71, 88, 41, 76, 86, 65, 83, 81, 114, 117, 119, 122, 68, 100, 103, 104, 105, 137, 138, 64, 72, 96, 99, 158, 159, 132, 56, 93, 94, 130, 131, 155, 62, 23, 170] 135 = some Q26 := by kernel_rfl

/- (lockless/axiom.program).relation -/
def Q39_0 : Sts := .op (some 2) (.mv (.c (.slice none 0 0))) <|
 .nil
def Q39_1 : Sts := .op (some 3) (.mv (.t 0)) <|
 .op (some 4) (.len (.t 3)) <|
 .op (some 5) (.makeSl 144 1 4 [(.int .u32 0)] (.t 4) (.t 4)) <|
 .op (some 2) (.mv (.t 5)) <|
 .nil
def Q39 : RFun := ⟨6, [0, 2], (.seq (.reg Q39_0) (.seq (.reg Q39_1) .ret)), [.tmp 2]⟩
theorem Q39_ok : compF Tryz.prog [0, 2] [15, 20, 31, 71, 88, 41, 76, 86, 65, 83, 81, 114, 117, 119, 122, 68, 100, 103, 104, 105, 137, 138, 64, 72, 96, 99, 158, 159, 132, 56, 93, 94, 130, 131, 155, 62, 23, 170] 136 = some Q39 := by kernel_rfl

/- (lockless/axiom.event).releases -/
def Q10_0 : Sts := .op (some 1) (.box 121 (.t 0)) <|
 .op (some 2) (.mv (.c (.bool false))) <|
 .nil
def Q10_1 : Sts := .op (some 6) (.faddr 0 (.t 1)) <|
 .op (some 7) (.faddr 4 (.t 6)) <|
 .op (some 8) (.loadI .i64 (.t 7)) <|
 .op (some 9) (.call 158 [(.t 8)]) <|
 .op (some 5) (.mv (.t 9)) <|
 .op (some 10) (.extract 0 (.t 5)) <|
 .op (some 11) (.extract 1 (.t 5)) <|
 .op (some 3) (.mv (.t 10)) <|
 .op (some 4) (.mv (.t 11)) <|
 .nil
def Q10_2 : Sts := .op (some 12) (.mv (.t 3)) <|
 .op (some 2) (.mv (.t 12)) <|
 .nil
def Q10 : RFun := ⟨13, [0, 1, 2, 3], (.seq (.reg Q10_0) (.seq (.reg Q10_1) (.seq (.reg Q10_2) .ret))), [.tmp 2]⟩
theorem Q10_ok : compF Tryz.prog [0, 1, 2, 3] [15, 20, 31, 71, 88, 41, 76, 86, 65, 83, 81, 114, 117, 119, 122, 68, 100, 103, 104, 105, 137, 138, 64, 72, 96, 99, 158, 159, 132, 56, 93, 94, 130, 131, 155, 62, 23, 170] 137 = some Q10 := by kernel_rfl

/- (lockless/axiom.event).acquires -/
def Q8_0 : Sts := .op (some 1) (.box 121 (.t 0)) <|
 .op (some 2) (.mv (.c (.bool false))) <|
 .nil
def Q8_1 : Sts := .op (some 6) (.faddr 0 (.t 1)) <|
 .op (some 7) (.faddr 4 (.t 6)) <|
 .op (some 8) (.loadI .i64 (.t 7)) <|
 .op (some 9) (.call 159 [(.t 8)]) <|
 .op (some 5) (.mv (.t 9)) <|
 .op (some 10) (.extract 0 (.t 5)) <|
 .op (some 11) (.extract 1 (.t 5)) <|
 .op (some 3) (.mv (.t 10)) <|
 .op (some 4) (.mv (.t 11)) <|
 .nil
def Q8_2 : Sts := .op (some 12) (.mv (.t 3)) <|
 .op (some 2) (.mv (.t 12)) <|
 .nil
def Q8 : RFun := ⟨13, [0, 1, 2, 3], (.seq (.reg Q8_0) (.seq (.reg Q8_1) (.seq (.reg Q8_2) .ret))), [.tmp 2]⟩
theorem Q8_ok : compF Tryz.prog [0, 1, 2, 3] [15, 20, 31, 71, 88, 41, 76, 86, 65, 83, 81, 114, 117, 119, 122, 68, 100, 103, 104, 105, 137, 138, 64, 72, 96, 99, 158, 159, 132, 56, 93, 94, 130, 131, 155, 62, 23, 170] 138 = some Q8 := by kernel_rfl

/- (lockless/axiom.program).writers$1 -/
def Q45_0 : Sts := .op (some 5) (.mv (.c (.bool false))) <|
 .nil
def Q45_1 : AT := .q (.op 0 (some 6) (.loadS (.t 1)) <|
 .op 1 (some 7) (.mv (.t 0)) <|
 .op 2 (some 8) (.iaddrS 6 (.t 6) (.t 7)) <|
 .op 3 (some 9) (.faddr 0 (.t 8)) <|
 .op 4 (some 10) (.faddr 0 (.t 9)) <|
 .op 5 (some 11) (.loadI .i64 (.t 10)) <|
 .op 6 (some 12) (.bin .neq (.t 11) (.c (.int .i64 5))) <|
 .op 7 (some 13) (.mv (.t 12)) <|
 .g 13 true (
 .op 8 (some 14) (.loadS (.t 2)) <|
 .op 9 (some 15) (.mv (.t 0)) <|
 .op 10 (some 16) (.iaddrS 1 (.t 14) (.t 15)) <|
 .op 11 (some 17) (.loadB (.t 16)) <|
 .nil) 12 18 (.t 17) <|
 .op 13 (some 19) (.mv (.t 18)) <|
 .g 19 true (
 .op 14 (some 20) (.loadS (.t 1)) <|
 .op 15 (some 21) (.mv (.t 0)) <|
 .op 16 (some 22) (.iaddrS 6 (.t 20) (.t 21)) <|
 .op 17 (some 23) (.faddr 0 (.t 22)) <|
 .op 18 (some 24) (.faddr 1 (.t 23)) <|
 .op 19 (some 25) (.loadI .i64 (.t 24)) <|
 .op 20 (some 26) (.loadI .i64 (.t 3)) <|
 .op 21 (some 27) (.bin .eql (.t 25) (.t 26)) <|
 .nil) 22 28 (.t 27) <|
 .op 23 (some 5) (.mv (.t 28)) <|
 .nil) <|
 .fin
def Q45 : RFun := ⟨29, [0, 1, 2, 3, 5], (.seq (.reg Q45_0) (.seq (.any Q45_1) .ret)), [.tmp 5]⟩
theorem Q45_ok : compF Tryz.prog [0, 1, 2, 3, 5] [15, 20, 31, 71, 88, 41, 76, 86, 65, 83, 81, 114, 117, 119, 122, 68, 100, 103, 104, 105, 137, 138, 64, 72, 96, 99, 158, 159, 132, 56, 93, 94, 130, 131, 155, 62, 23, 170] 139 = some Q45 := by kernel_rfl

/- slices.IndexFunc[[]int,int] -/
def Q85_0 : Sts := .op (some 4) (.mv (.c (.int .i64 0))) <|
 .nil
def Q85_1 : Sts := .op (some 6) (.mv (.t 0)) <|
 .op (some 7) (.len (.t 6)) <|
 .op (some 8) (.mv (.c (.int .i64 0))) <|
 .nil
def Q85_2 : Sts := .op (some 9) (.bin .lss (.t 8) (.t 7)) <|
 .nil
def Q85_3 : Sts := .op (some 10) (.mv (.t 8)) <|
 .op (some 5) (.mv (.t 10)) <|
 .nil
def Q85_4 : Sts := .op (some 11) (.mv (.t 1)) <|
 .op (some 12) (.mv (.t 0)) <|
 .op (some 13) (.mv (.t 5)) <|
 .op (some 14) (.iaddrS 1 (.t 12) (.t 13)) <|
 .op (some 15) (.loadI .i64 (.t 14)) <|
 .op (some 16) (.callv (.t 11) [(.t 15)]) <|
 .nil
def Q85_5 : Sts := .op (some 17) (.mv (.t 5)) <|
 .op (some 4) (.mv (.t 17)) <|
 .nil
def Q85_6 : Sts := .op (some 18) (.bin .add (.t 8) (.c (.int .i64 1))) <|
 .op (some 8) (.mv (.t 18)) <|
 .nil
def Q85_L7 : RCode := (.seq (.reg Q85_2) (.seq (.cond (.t 9) .skip (.exit 0)) (.seq (.block 1 (.seq (.reg Q85_3) (.seq (.reg Q85_4) (.cond (.t 16) (.seq (.reg Q85_5) .ret) .skip)))) (.reg Q85_6))))
def Q85_7 : Sts := .op (some 4) (.mv (.c (.int .i64 (-1)))) <|
 .nil
def Q85 : RFun := ⟨19, [0, 1, 4, 5, 7, 8], (.seq (.reg Q85_0) (.seq (.seq (.reg Q85_1) (.block 0 (.loop Q85_L7))) (.seq (.reg Q85_7) .ret))), [.tmp 4]⟩
theorem Q85_ok : compF Tryz.prog [0, 1, 4, 5, 7, 8] [15, 20, 31, 71, 88, 41, 76, 86, 65, 83, 81, 114, 117, 119, 122, 68, 100, 103, 104, 105, 137, 138, 64, 72, 96, 99, 158, 159, 132, 56, 93, 94, 130, 131, 155, 62, 23, 170] 140 = some Q85 := by kernel_rfl

/- slices.Grow[[]int,int] -/
def Q84_0 : Sts := .op (some 4) (.mv (.c (.slice none 0 0))) <|
 .nil
def Q84_1 : Sts := .op (some 5) (.mv (.t 1)) <|
 .op (some 6) (.bin .lss (.t 5) (.c (.int .i64 0))) <|
 .nil
def Q84_2 : Sts := .op (some 7) (.bad) <|
 .op none (.bad) <|
 .nil
def Q84_3 : Sts := .op (some 8) (.mv (.t 1)) <|
 .op (some 9) (.mv (.t 0)) <|
 .op (some 10) (.cap (.t 9)) <|
 .op (some 11) (.mv (.t 0)) <|
 .op (some 12) (.len (.t 11)) <|
 .op (some 13) (.bin .sub (.t 10) (.t 12)) <|
 .op (some 14) (.bin .sub (.t 8) (.t 13)) <|
 .op (some 1) (.mv (.t 14)) <|
 .nil
def Q84_4 : Sts := .op (some 15) (.mv (.t 1)) <|
 .op (some 16) (.bin .gtr (.t 15) (.c (.int .i64 0))) <|
 .nil
def Q84_5 : Sts := .op (some 17) (.mv (.t 0)) <|
 .op (some 18) (.mv (.t 0)) <|
 .op (some 19) (.cap (.t 18)) <|
 .op (some 20) (.slS 1 (.t 17) none (some (.t 19)) none) <|
 .op (some 21) (.mv (.t 1)) <|
 .op (some 22) (.appendZ 3 1 8 [(.int .i64 0)] (.t 20) (.t 21)) <|
 .op (some 23) (.mv (.t 0)) <|
 .op (some 24) (.len (.t 23)) <|
 .op (some 25) (.slS 1 (.t 22) none (some (.t 24)) none) <|
 .op (some 0) (.mv (.t 25)) <|
 .nil
def Q84_6 : Sts := .op (some 26) (.mv (.t 0)) <|
 .op (some 4) (.mv (.t 26)) <|
 .nil
def Q84 : RFun := ⟨27, [0, 1, 4], (.seq (.reg Q84_0) (.seq (.seq (.reg Q84_1) (.cond (.t 6) (.reg Q84_2) .skip)) (.seq (.seq (.reg Q84_3) (.seq (.reg Q84_4) (.cond (.t 16) (.reg Q84_5) .skip))) (.seq (.reg Q84_6) .ret)))), [.tmp 4]⟩
theorem Q84_ok : compF Tryz.prog [0, 1, 4] [15, 20, 31, 71, 88, 41, 76, 86, 65, 83, 81, 114, 117, 119, 122, 68, 100, 103, 104, 105, 137, 138, 64, 72, 96, 99, 158, 159, 132, 56, 93, 94, 130, 131, 155, 62, 23, 170] 141 = some Q84 := by kernel_rfl

/- cmp.isNaN[int] -/
def Q52_0 : Sts := .op (some 2) (.mv (.c (.bool false))) <|
 .nil
def Q52_1 : Sts := .op (some 3) (.mv (.t 0)) <|
 .op (some 4) (.mv (.t 0)) <|
 .op (some 5) (.bin .neq (.t 3) (.t 4)) <|
 .op (some 2) (.mv (.t 5)) <|
 .nil
def Q52 : RFun := ⟨6, [0, 2], (.seq (.reg Q52_0) (.seq (.reg Q52_1) .ret)), [.tmp 2]⟩
theorem Q52_ok : compF Tryz.prog [0, 2] [15, 20, 31, 71, 88, 41, 76, 86, 65, 83, 81, 114, 117, 119, 122, 68, 100, 103, 104, 105, 137, 138, 64, 72, 96, 99, 158, 159, 132, 56, 93, 94, 130, 131, 155, 62, 23, 170] 152 = some Q52 := by kernel_rfl

/- slices.Sorted[int] -/
def Q88_0 : Sts := .op (some 2) (.mv (.c (.slice none 0 0))) <|
 .nil
def Q88_1 : Sts := .op (some 4) (.mv (.t 0)) <|
 .op (some 5) (.call 166 [(.t 4)]) <|
 .op (some 3) (.mv (.t 5)) <|
 .nil
def Q88_2 : Sts := .op (some 6) (.mv (.t 3)) <|
 .op (some 7) (.call 167 [(.t 6)]) <|
 .nil
def Q88_3 : Sts := .op (some 8) (.mv (.t 3)) <|
 .op (some 2) (.mv (.t 8)) <|
 .nil
def Q88 : RFun := ⟨9, [0, 2, 3], (.seq (.reg Q88_0) (.seq (.reg Q88_1) (.seq (.reg Q88_2) (.seq (.reg Q88_3) .ret)))), [.tmp 2]⟩
theorem Q88_ok : compF Tryz.prog [0, 2, 3] [15, 20, 31, 71, 88, 41, 76, 86, 65, 83, 81, 114, 117, 119, 122, 68, 100, 103, 104, 105, 137, 138, 64, 72, 96, 99, 158, 159, 132, 56, 93, 94, 130, 131, 155, 62, 23, 170] 156 = some Q88 := by kernel_rfl

/- slices.Values[[]int,int] -/
def Q89_0 : Sts := .op (some 1) (.box 34 (.t 0)) <|
 .op (some 2) (.mv (.c .nilFunc)) <|
 .nil
def Q89_1 : Sts := .op (some 3) (.mkfn 168 [] [(.t 1)]) <|
 .op (some 2) (.mv (.t 3)) <|
 .nil
def Q89 : RFun := ⟨4, [0, 1, 2], (.seq (.reg Q89_0) (.seq (.reg Q89_1) .ret)), [.tmp 2]⟩
theorem Q89_ok : compF Tryz.prog [0, 1, 2] [15, 20, 31, 71, 88, 41, 76, 86, 65, 83, 81, 114, 117, 119, 122, 68, 100, 103, 104, 105, 137, 138, 64, 72, 96, 99, 158, 159, 132, 56, 93, 94, 130, 131, 155, 62, 23, 170] 157 = some Q89 := by kernel_rfl

/- lockless/order.Releases -/
def Q70_0 : Sts := .op (some 2) (.mv (.c (.bool false))) <|
 .op (some 3) (.mv (.c (.int .i64 0))) <|
 .nil
def Q70_1 : Sts := .op (some 4) (.mv (.t 0)) <|
 .op (some 5) (.call 96 [(.t 4)]) <|
 .op (some 6) (.notb (.t 5)) <|
 .nil
def Q70_2 : Sts := .op (some 2) (.mv (.c (.bool false))) <|
 .op (some 3) (.mv (.c (.int .i64 1))) <|
 .nil
def Q70_3 : Sts := .op (some 7) (.mv (.t 0)) <|
 .op (some 8) (.call 132 [(.t 7)]) <|
 .op (some 9) (.bin .and (.t 8) (.c (.int .i64 2))) <|
 .op (some 10) (.bin .neq (.t 9) (.c (.int .i64 0))) <|
 .op (some 2) (.mv (.t 10)) <|
 .op (some 3) (.mv (.c (.int .i64 0))) <|
 .nil
def Q70 : RFun := ⟨11, [0, 2, 3], (.seq (.reg Q70_0) (.seq (.seq (.reg Q70_1) (.cond (.t 6) (.seq (.reg Q70_2) .ret) .skip)) (.seq (.reg Q70_3) .ret))), [.tmp 2, .tmp 3]⟩
theorem Q70_ok : compF Tryz.prog [0, 2, 3] [15, 20, 31, 71, 88, 41, 76, 86, 65, 83, 81, 114, 117, 119, 122, 68, 100, 103, 104, 105, 137, 138, 64, 72, 96, 99, 158, 159, 132, 56, 93, 94, 130, 131, 155, 62, 23, 170] 158 = some Q70 := by kernel_rfl

/- lockless/order.Acquires -/
def Q67_0 : Sts := .op (some 2) (.mv (.c (.bool false))) <|
 .op (some 3) (.mv (.c (.int .i64 0))) <|
 .nil
def Q67_1 : Sts := .op (some 4) (.mv (.t 0)) <|
 .op (some 5) (.call 96 [(.t 4)]) <|
 .op (some 6) (.notb (.t 5)) <|
 .nil
def Q67_2 : Sts := .op (some 2) (.mv (.c (.bool false))) <|
 .op (some 3) (.mv (.c (.int .i64 1))) <|
 .nil
def Q67_3 : Sts := .op (some 7) (.mv (.t 0)) <|
 .op (some 8) (.call 132 [(.t 7)]) <|
 .op (some 9) (.bin .and (.t 8) (.c (.int .i64 1))) <|
 .op (some 10) (.bin .neq (.t 9) (.c (.int .i64 0))) <|
 .op (some 2) (.mv (.t 10)) <|
 .op (some 3) (.mv (.c (.int .i64 0))) <|
 .nil
def Q67 : RFun := ⟨11, [0, 2, 3], (.seq (.reg Q67_0) (.seq (.seq (.reg Q67_1) (.cond (.t 6) (.seq (.reg Q67_2) .ret) .skip)) (.seq (.reg Q67_3) .ret))), [.tmp 2, .tmp 3]⟩
theorem Q67_ok : compF Tryz.prog [0, 2, 3] [15, 20, 31, 71, 88, 41, 76, 86, 65, 83, 81, 114, 117, 119, 122, 68, 100, 103, 104, 105, 137, 138, 64, 72, 96, 99, 158, 159, 132, 56, 93, 94, 130, 131, 155, 62, 23, 170] 159 = some Q67 := by kernel_rfl

/- slices.Collect[int] -/
def Q78_0 : Sts := .op (some 2) (.mv (.c (.slice none 0 0))) <|
 .nil
def Q78_1 : Sts := .op (some 3) (.mv (.t 0)) <|
 .op (some 4) (.call 172 [(.c (.slice none 0 0)), (.t 3)]) <|
 .op (some 2) (.mv (.t 4)) <|
 .nil
def Q78 : RFun := ⟨5, [0, 2], (.seq (.reg Q78_0) (.seq (.reg Q78_1) .ret)), [.tmp 2]⟩
theorem Q78_ok : compF Tryz.prog [0, 2] [15, 20, 31, 71, 88, 41, 76, 86, 65, 83, 81, 114, 117, 119, 122, 68, 100, 103, 104, 105, 137, 138, 64, 72, 96, 99, 158, 159, 132, 56, 93, 94, 130, 131, 155, 62, 23, 170] 166 = some Q78 := by kernel_rfl

/- slices.Values[[]int,int]$1 -/
def Q90_0 : Sts := .op (some 5) (.loadS (.t 1)) <|
 .op (some 6) (.len (.t 5)) <|
 .op (some 7) (.mv (.c (.int .i64 0))) <|
 .nil
def Q90_1 : Sts := .op (some 8) (.bin .lss (.t 7) (.t 6)) <|
 .nil
def Q90_2 : Sts := .op (some 9) (.iaddrS 1 (.t 5) (.t 7)) <|
 .op (some 10) (.loadI .i64 (.t 9)) <|
 .op (some 4) (.mv (.t 10)) <|
 .nil
def Q90_3 : Sts := .op (some 11) (.mv (.t 0)) <|
 .op (some 12) (.mv (.t 4)) <|
 .op (some 13) (.callv (.t 11) [(.t 12)]) <|
 .op (some 14) (.notb (.t 13)) <|
 .nil
def Q90_4 : Sts := .op (some 15) (.bin .add (.t 7) (.c (.int .i64 1))) <|
 .op (some 7) (.mv (.t 15)) <|
 .nil
def Q90_L5 : RCode := (.seq (.reg Q90_1) (.seq (.cond (.t 8) .skip (.exit 0)) (.seq (.block 1 (.seq (.reg Q90_2) (.seq (.reg Q90_3) (.cond (.t 14) .ret .skip)))) (.reg Q90_4))))
def Q90 : RFun := ⟨16, [0, 1, 4, 5, 6, 7], (.seq (.reg Q90_0) (.block 0 (.loop Q90_L5))), []⟩
theorem Q90_ok : compF Tryz.prog [0, 1, 4, 5, 6, 7] [15, 20, 31, 71, 88, 41, 76, 86, 65, 83, 81, 114, 117, 119, 122, 68, 100, 103, 104, 105, 137, 138, 64, 72, 96, 99, 158, 159, 132, 56, 93, 94, 130, 131, 155, 62, 23, 170] 168 = some Q90 := by kernel_rfl

/- slices.AppendSeq[[]int,int] -/
def Q74_0 : Sts := .op (some 2) (.box 34 (.t 0)) <|
 .op (some 4) (.mv (.c (.slice none 0 0))) <|
 .nil
def Q74_1 : Sts := .op (some 6) (.mv (.t 1)) <|
 .nil
def Q74_2 : Sts := .op (some 5) (.mv (.t 7)) <|
 .nil
def Q74_3 : Sts := .op (some 8) (.loadS (.t 2)) <|
 .op (some 9) (.mv (.t 5)) <|
 .op (some 10) (.buildSl 3 1 [(.int .i64 0)] [(0, 1, (.t 9))]) <|
 .op (some 11) (.append 3 1 8 [(.int .i64 0)] (.t 8) (.t 10)) <|
 .op none (.store 1 (.t 2) (.t 11)) <|
 .nil
def R_slices_AppendSeq_Lint_int_A4 : RCode := (.reg Q74_2)
def R_slices_AppendSeq_Lint_int_B4 : RCode := (.block 1 (.reg Q74_3))
def Q74_5 : Sts := .op (some 12) (.loadS (.t 2)) <|
 .op (some 4) (.mv (.t 12)) <|
 .nil
def Q74 : RFun := ⟨13, [0, 1, 2, 4, 5, 6, 7], (.seq (.reg Q74_0) (.seq (.seq (.reg Q74_1) (.block 0 (.rangeF (.t 6) [7] R_slices_AppendSeq_Lint_int_A4 R_slices_AppendSeq_Lint_int_B4))) (.seq (.reg Q74_5) .ret))), [.tmp 4]⟩
theorem Q74_ok : compF Tryz.prog [0, 1, 2, 4, 5, 6, 7] [15, 20, 31, 71, 88, 41, 76, 86, 65, 83, 81, 114, 117, 119, 122, 68, 100, 103, 104, 105, 137, 138, 64, 72, 96, 99, 158, 159, 132, 56, 93, 94, 130, 131, 155, 62, 23, 170] 172 = some Q74 := by kernel_rfl

end Go.EV

namespace Go.EV
open Go.Proofs

abbrev vi (n : Int) : Value := .int .i64 n
abbrev vb (b : Bool) : Value := .bool b

def bitsP (o : Int) : Int := if o = 4 then 7 else o
def isOrderP (o : Int) : Bool := decide (0 ≤ o) && decide (o < 5)
def mayP (k o : Int) : Bool :=
 if k = 0 then !decide (o = 2) && !decide (o = 3) else if k = 1 then !decide (o = 1) && !decide (o = 3) else if k = 5 then !decide (o = 0) else true

section
variable {M : PHeap}

theorem order_bits_q (o : Int) : ConQ Tryz.prog 132 #[vi o] M (vi (bitsP o)) := by
 refine Con.enter Q71_ok (args := [vi o]) (by simp [Q71]) fun w0 => ?_
 simp only [Q71, argE]
 repeat' first
   | refine EV.seq ?_
   | refine EV.skip ?_
   | (refine EV.reg ?_; (conv => (arg 2; whnf)); (refine nx ?_; try with_reducible exact ⟨⟩))
   | (refine EV.condX rfl (fun h => ?_) (fun h => ?_) <;> try exact dead h)
   | (refine EV.ret Q71_ok ?_; simp only [wpS, wpA, wpQL, push_cast, Int.cast_ofNat_Int, reduceIte, Nat.reduceEqDiff, reduceCtorEq, Nat.reduceAdd, Nat.reduceSub, Nat.reduceMul, Int.reduceToNat, Nat.reduceLeDiff, Q71])
   | fail
 all_goals simp_all [bitsP]

theorem order_isOrder_q (o : Int) : ConQ Tryz.prog 96 #[vi o] M (vb (isOrderP o)) := by
 refine Con.enter Q72_ok (args := [vi o]) (by simp [Q72]) fun w0 => ?_
 simp only [Q72, argE]
 repeat' first
   | refine EV.seq ?_
   | (refine EV.reg ?_; (conv => (arg 2; whnf)); (refine nx ?_; try with_reducible exact ⟨⟩))
   | with_reducible assumption
   | (refine condW.merge ?_ (fun hc K' hK => ?_) ?_; rotate_left)
   | (refine EV.ret Q72_ok ?_; simp only [wpS, wpA, wpQL, push_cast, Int.cast_ofNat_Int, reduceIte, Nat.reduceEqDiff, reduceCtorEq, Nat.reduceAdd, Nat.reduceSub, Nat.reduceMul, Int.reduceToNat, Nat.reduceLeDiff, Q72])
   | fail
 all_goals simp_all [isOrderP]

theorem order_may_q (k o : Int) : ConQ Tryz.prog 99 #[vi k, vi o] M (vb (mayP k o)) := by
 refine Con.enter Q73_ok (args := [vi k, vi o]) (by simp [Q73]) fun w0 => ?_
 simp only [Q73, argE]
 repeat' first
   | refine EV.seq ?_
   | refine EV.skip ?_
   | refine EV.block ?_
   | refine EV.inBlock ?_
   | (refine EV.reg ?_; (conv => (arg 2; whnf)); (refine nx ?_; try with_reducible exact ⟨⟩))
   | with_reducible assumption
   | (refine condW.merge ?_ (fun hc K' hK => ?_) ?_; rotate_left)
   | (refine EV.condX rfl (fun h => ?_) (fun h => ?_) <;> try exact dead h)
   | (refine EV.ret Q73_ok ?_; simp only [wpS, wpA, wpQL, push_cast, Int.cast_ofNat_Int, reduceIte, Nat.reduceEqDiff, reduceCtorEq, Nat.reduceAdd, Nat.reduceSub, Nat.reduceMul, Int.reduceToNat, Nat.reduceLeDiff, Q73])
   | fail
 all_goals simp_all [mayP]


def mayR (k o : Int) : Bool := decide (0 ≤ k) && decide (k < 6) && isOrderP o
theorem order_May_q (k o : Int) : ConQ Tryz.prog 64 #[vi k, vi o] M (.tuple #[vb (mayR k o && mayP k o), vi (if mayR k o then 0 else 1)]) := by
 refine Con.enter Q68_ok (args := [vi k, vi o]) (by simp [Q68]) fun w0 => ?_
 simp only [Q68, argE]
 repeat' first
   | refine EV.seq ?_
   | refine EV.skip ?_
   | (refine EV.reg ?_; (conv => (arg 2; whnf)); (refine nx ?_; try with_reducible exact ⟨⟩))
   | ((first | refine ConQ.call (order_may_q _ _) ?_ | refine ConQ.call (order_isOrder_q _) ?_ | fail); try (refine nx ?_; try with_reducible exact ⟨⟩))
   | with_reducible assumption
   | (refine condW.merge ?_ (fun hc K' hK => ?_) ?_; rotate_left)
   | (refine EV.condX rfl (fun h => ?_) (fun h => ?_) <;> try exact dead h)
   | (refine EV.ret Q68_ok ?_; simp only [wpS, wpA, wpQL, push_cast, Int.cast_ofNat_Int, reduceIte, Nat.reduceEqDiff, reduceCtorEq, Nat.reduceAdd, Nat.reduceSub, Nat.reduceMul, Int.reduceToNat, Nat.reduceLeDiff, Q68])
   | fail
 all_goals (simp [mayR]; grind)

def acqP (o : Int) : Bool := decide (o = 1) || decide (o = 3) || decide (o = 4)
def relP (o : Int) : Bool := decide (o = 2) || decide (o = 3) || decide (o = 4)

theorem isOrder_cases {o : Int} (h : isOrderP o = true) : o = 0 ∨ o = 1 ∨ o = 2 ∨ o = 3 ∨ o = 4 := by
 simp [isOrderP] at h; omega

theorem order_Acquires_q (o : Int) (ho : isOrderP o = true) : ConQ Tryz.prog 159 #[vi o] M (.tuple #[vb (acqP o), vi 0]) := by
 refine Con.enter Q67_ok (args := [vi o]) (by simp [Q67]) fun w0 => ?_
 simp only [Q67, argE]
 repeat' first
   | refine EV.seq ?_
   | refine EV.skip ?_
   | (refine EV.reg ?_; (conv => (arg 2; whnf)); (refine nx ?_; try with_reducible exact ⟨⟩))
   | ((first | refine ConQ.call (order_bits_q _) ?_ | refine ConQ.call (order_isOrder_q _) ?_ | fail); try (refine nx ?_; try with_reducible exact ⟨⟩))
   | (refine EV.condX rfl (fun h => ?_) (fun h => ?_) <;> try exact dead h)
   | (refine EV.ret Q67_ok ?_; simp only [wpS, wpA, wpQL, push_cast, Int.cast_ofNat_Int, reduceIte, Nat.reduceEqDiff, reduceCtorEq, Nat.reduceAdd, Nat.reduceSub, Nat.reduceMul, Int.reduceToNat, Nat.reduceLeDiff, Q67])
   | fail
 all_goals (first | (cases (ho.symm.trans h); done) | (rcases isOrder_cases ho with rfl | rfl | rfl | rfl | rfl <;> (congr 3 <;> decide)))

theorem order_Releases_q (o : Int) (ho : isOrderP o = true) : ConQ Tryz.prog 158 #[vi o] M (.tuple #[vb (relP o), vi 0]) := by
 refine Con.enter Q70_ok (args := [vi o]) (by simp [Q70]) fun w0 => ?_
 simp only [Q70, argE]
 repeat' first
   | refine EV.seq ?_
   | refine EV.skip ?_
   | (refine EV.reg ?_; (conv => (arg 2; whnf)); (refine nx ?_; try with_reducible exact ⟨⟩))
   | ((first | refine ConQ.call (order_bits_q _) ?_ | refine ConQ.call (order_isOrder_q _) ?_ | fail); try (refine nx ?_; try with_reducible exact ⟨⟩))
   | (refine EV.condX rfl (fun h => ?_) (fun h => ?_) <;> try exact dead h)
   | (refine EV.ret Q70_ok ?_; simp only [wpS, wpA, wpQL, push_cast, Int.cast_ofNat_Int, reduceIte, Nat.reduceEqDiff, reduceCtorEq, Nat.reduceAdd, Nat.reduceSub, Nat.reduceMul, Int.reduceToNat, Nat.reduceLeDiff, Q70])
   | fail
 all_goals (first | (cases (ho.symm.trans h); done) | (rcases isOrder_cases ho with rfl | rfl | rfl | rfl | rfl <;> (congr 3 <;> decide)))

def plainP (k o : Int) : Int := if o ≠ 4 then o else if k = 0 then 1 else if k = 1 then 2 else 3
theorem order_Plain_q (k o : Int) (hk : mayR k o = true) (hm : mayP k o = true) (h5 : k ≠ 5) : ConQ Tryz.prog 72 #[vi k, vi o] M (.tuple #[vi (plainP k o), vi 0]) := by
 refine Con.enter Q69_ok (args := [vi k, vi o]) (by simp [Q69]) fun w0 => ?_
 simp only [Q69, argE]
 repeat' first
   | refine EV.seq ?_
   | refine EV.skip ?_
   | refine EV.block ?_
   | refine EV.inBlock ?_
   | (refine EV.reg ?_; (conv => (arg 2; whnf)); (refine nx ?_; try with_reducible exact ⟨⟩))
   | (refine ConQ.call (order_May_q _ _) ?_; try (refine nx ?_; try with_reducible exact ⟨⟩))
   | with_reducible assumption
   | (refine condW.merge ?_ (fun hc K' hK => ?_) ?_; rotate_left)
   | (refine EV.condX rfl (fun h => ?_) (fun h => ?_) <;> try exact dead h)
   | (refine EV.ret Q69_ok ?_; simp only [wpS, wpA, wpQL, push_cast, Int.cast_ofNat_Int, reduceIte, Nat.reduceEqDiff, reduceCtorEq, Nat.reduceAdd, Nat.reduceSub, Nat.reduceMul, Int.reduceToNat, Nat.reduceLeDiff, Q69])
   | fail
 all_goals simp_all [plainP]

/-- An operation of a litmus program. -/
structure OpV where
 kind : Int
 loc : Int
 v : Int
 w : Int
 ord : Int
 deriving DecidableEq

abbrev encOp (o : OpV) : List Value := [vi o.kind, vi o.loc, vi o.v, vi o.w, vi o.ord]
abbrev vop (o : OpV) : Value := .agg #[vi o.kind, vi o.loc, vi o.v, vi o.w, vi o.ord]

def digitP (n : Int) : Bool := decide (0 ≤ n) && decide (n ≤ 9)
theorem litmus_digit_q (n : Int) : ConQ Tryz.prog 100 #[vi n] M (vb (digitP n)) := by
 refine Con.enter Q57_ok (args := [vi n]) (by simp [Q57]) fun w0 => ?_
 simp only [Q57, argE]
 repeat' first
   | refine EV.seq ?_
   | (refine EV.reg ?_; (conv => (arg 2; whnf)); (refine nx ?_; try with_reducible exact ⟨⟩))
   | with_reducible assumption
   | (refine condW.merge ?_ (fun hc K' hK => ?_) ?_; rotate_left)
   | (refine EV.ret Q57_ok ?_; simp only [wpS, wpA, wpQL, push_cast, Int.cast_ofNat_Int, reduceIte, Nat.reduceEqDiff, reduceCtorEq, Nat.reduceAdd, Nat.reduceSub, Nat.reduceMul, Int.reduceToNat, Nat.reduceLeDiff, Q57])
   | fail
 all_goals simp_all [digitP]

def accessP (o : OpV) : Bool := decide (0 ≤ o.kind) && decide (o.kind ≤ 4)
theorem litmus_access_q (o : OpV) : ConQ Tryz.prog 71 #[vop o] M (vb (accessP o)) := by
 refine Con.enter Q56_ok (args := [vop o]) (by simp [Q56]) fun w0 => ?_
 simp only [Q56, argE]
 repeat' first
   | refine EV.seq ?_
   | (refine EV.reg ?_; (conv => (arg 2; whnf)); (refine nx ?_; try with_reducible exact ⟨⟩))
   | with_reducible assumption
   | (refine condW.merge ?_ (fun hc K' hK => ?_) ?_; rotate_left)
   | (refine EV.ret Q56_ok ?_; simp only [wpS, wpA, wpQL, push_cast, Int.cast_ofNat_Int, reduceIte, Nat.reduceEqDiff, reduceCtorEq, Nat.reduceAdd, Nat.reduceSub, Nat.reduceMul, Int.reduceToNat, Nat.reduceLeDiff, Q56])
   | ((first | with_reducible intro b | refine xiA rfl ?_ | fail); try (refine nx ?_; try with_reducible exact ⟨⟩))
   | fail
 all_goals simp_all [accessP]

def fitsP (o : OpV) : Bool :=
 decide (0 ≤ o.loc) && decide (o.loc < 3) &&
 (if o.kind = 0 then decide (o.v = 0) && decide (o.w = 0) else if o.kind = 1 then digitP o.v && decide (o.w = 0) else if o.kind = 2 then decide (-9 ≤ o.v) && decide (o.v ≤ 9) && decide (o.w = 0)
  else if o.kind = 3 ∨ o.kind = 4 then digitP o.v && digitP o.w else if o.kind = 5 then decide (o.loc = 0) && decide (o.v = 0) && decide (o.w = 0) else false)
theorem litmus_fits_q (o : OpV) : ConQ Tryz.prog 65 #[vop o] M (vb (fitsP o)) := by
 refine Con.enter Q58_ok (args := [vop o]) (by simp [Q58]) fun w0 => ?_
 simp only [Q58, argE]
 repeat' first
   | refine EV.seq ?_
   | refine EV.skip ?_
   | refine EV.block ?_
   | refine EV.inBlock ?_
   | (refine EV.reg ?_; (conv => (arg 2; whnf)); (refine nx ?_; try with_reducible exact ⟨⟩))
   | (refine ConQ.call (litmus_digit_q _) ?_; try (refine nx ?_; try with_reducible exact ⟨⟩))
   | with_reducible assumption
   | (refine condW.merge ?_ (fun hc K' hK => ?_) ?_; rotate_left)
   | (refine EV.condX rfl (fun h => ?_) (fun h => ?_) <;> try exact dead h)
   | (refine EV.ret Q58_ok ?_; simp only [wpS, wpA, wpQL, push_cast, Int.cast_ofNat_Int, reduceIte, Nat.reduceEqDiff, reduceCtorEq, Nat.reduceAdd, Nat.reduceSub, Nat.reduceMul, Int.reduceToNat, Nat.reduceLeDiff, Q58])
   | ((first | with_reducible intro b | refine xiA rfl ?_ | fail); try (refine nx ?_; try with_reducible exact ⟨⟩))
   | fail
 all_goals (simp [fitsP]; grind)

end
end Go.EV

namespace Go.EV
open Go.Proofs

theorem Sl.ints {H : PHeap} {b off : Nat} {xs : List Int} (h : rd H b off xs.length (xs.map vi)) : ∀ i (hi : i < xs.length), rd H b (off + i) 1 [vi xs[i]] := by
 intro i hi
 have := h.part (i := i) (m := 1) (by omega)
 rwa [show ((xs.map vi).drop i).take 1 = [vi xs[i]] from by
  rw [List.drop_eq_getElem_cons (by simpa using hi)]; simp] at this

section
variable {M : PHeap}

def mx (xs : List Int) (i : Nat) : Int := (xs.take i).foldl (fun a b => if b > a then b else a) (xs.headD 0)

theorem mx_step {xs : List Int} {i : Nat} (hi : i < xs.length) : mx xs (i + 1) = if xs[i] > mx xs i then xs[i] else mx xs i := by
 simp only [mx, List.take_succ_eq_append_getElem hi, List.foldl_append, List.foldl_cons, List.foldl_nil]
 rfl

theorem slices_Max_q (H : PHeap) (b off c : Nat) (xs : List Int) (h0 : 0 < xs.length) (hl : xs.length < 1000000) (h : rd H b off xs.length (xs.map vi)) : ConQ Tryz.prog 98 #[.slice (some ⟨b, off, none⟩) xs.length c] H (vi (mx xs xs.length)) := by
 have hr := Sl.ints h
 have hr0 : rd H b off 1 [vi xs[0]] := hr 0 h0
 have hx0 : xs[0] = mx xs 1 := by cases xs with | nil => simp at h0 | cons x xs => simp [mx]
 refine Con.enter Q87_ok (args := [.slice (some ⟨b, off, none⟩) xs.length c]) (by simp [Q87]) fun w0 => ?_
 simp only [Q87, argE]
 repeat' first
   | refine EV.seq ?_
   | refine EV.skip ?_
   | refine EV.block ?_
   | (refine EV.reg ?_; (conv => (arg 2; whnf)); (refine nx ?_; try with_reducible exact ⟨⟩))
   | (refine EV.condX rfl (fun h => ?_) (fun h => ?_) <;> try exact dead h)
   | (refine And.intro (by omega) ?_)
   | (refine Exists.intro _ (And.intro (rd_M (by assumption)) ?_); try (refine nx ?_; try with_reducible exact ⟨⟩))
   | fail
 ·refine EV.to (ρ' := [(0, .slice (some ⟨b, off, none⟩) xs.length c), (3, vi (mx xs 1)), (4, vi (1 : Nat))]) ?_ (by simp [get, hx0]) (List.Sublist.refl _)
  refine EV.loop (fun i : Nat => ([(0, .slice (some ⟨b, off, none⟩) xs.length c), (3, vi (mx xs i)), (4, vi i)], H, [])) (fun i => 1 ≤ i ∧ i ≤ xs.length) (fun i => xs.length - i) 1 ⟨by omega, by omega⟩ ?_
  intro i ⟨hi1, hi2⟩ ih
  dsimp only at ih ⊢
  repeat' first
    | refine EV.seq ?_
    | refine EV.skip ?_
    | refine EV.block ?_
    | (refine EV.reg ?_; (conv => (arg 2; whnf)); (refine nx ?_; try with_reducible exact ⟨⟩))
    | (refine EV.condX rfl (fun h => ?_) (fun h => ?_) <;> try exact dead h)
    | (refine EV.exit rfl ?_)
    | (refine EV.ret Q87_ok ?_; simp only [wpS, wpA, wpQL, push_cast, Int.cast_ofNat_Int, reduceIte, Nat.reduceEqDiff, reduceCtorEq, Nat.reduceAdd, Nat.reduceSub, Nat.reduceMul, Int.reduceToNat, Nat.reduceLeDiff, Q87])
    | (refine And.intro (by omega) ?_)
    | fail
  ·have hi : i < xs.length := by omega
   refine ⟨_, rd_M (hr i hi), ?_⟩
   repeat' first
     | refine EV.inBlock ?_
     | (refine EV.reg ?_; (conv => (arg 2; whnf)); (refine nx ?_; try with_reducible exact ⟨⟩))
     | fail
   refine EV.to (ih (i + 1) ⟨by omega, by omega⟩ (by omega)) ?_ (List.Sublist.refl _)
   repeat' first
    | (refine List.forall_mem_cons.2 (And.intro ?_ ?_))
    | (intro _ hnil; cases hnil; done)
    | rfl
    | (refine env_w64 rfl (by first | rfl | (push_cast; first | rfl | omega)) (by omega) (by omega); done)
    | (simp (disch := omega) only [get_cons, get_nil, reduceIte, Nat.reduceEqDiff, Option.some.injEq, Value.int.injEq, w64, Int.natCast_add, Int.natCast_one, Int.cast_ofNat_Int, Int.natCast_zero, mx_step hi]; done)
    | fail
  ·rw [show i = xs.length from by omega]


/-- What limits counts. -/
structure LimS where
 acc : Int
 fen : Int
 w0 : Int
 w1 : Int
 w2 : Int

def limStep (s : LimS) (o : OpV) : LimS :=
 if o.kind = 5 then { s with fen := s.fen + 1 }
 else if accessP o = true then
  {acc := s.acc + 1, fen := if o.ord = 4 then s.fen + 2 else s.fen,
   w0 := if o.kind ≠ 0 ∧ o.loc = 0 then s.w0 + 1 else s.w0, w1 := if o.kind ≠ 0 ∧ o.loc = 1 then s.w1 + 1 else s.w1, w2 := if o.kind ≠ 0 ∧ o.loc = 2 then s.w2 + 1 else s.w2 }
 else s

def limOf (l : List OpV) : LimS := l.foldl limStep ⟨0, 0, 0, 0, 0⟩

def limitsP (ts : List (List OpV)) : Bool :=
 decide (ts.length ≤ 3) && decide ((limOf ts.flatten).acc ≤ 6) && decide ((limOf ts.flatten).fen ≤ 8) && decide ((limOf ts.flatten).w0 ≤ 4) && decide ((limOf ts.flatten).w1 ≤ 4) && decide ((limOf ts.flatten).w2 ≤ 4)

theorem lim_bound (l : List OpV) : 0 ≤ (limOf l).acc ∧ (limOf l).acc ≤ l.length ∧ 0 ≤ (limOf l).fen ∧ (limOf l).fen ≤ 2 * l.length ∧ 0 ≤ (limOf l).w0 ∧ (limOf l).w0 ≤ l.length ∧ 0 ≤ (limOf l).w1 ∧ (limOf l).w1 ≤ l.length ∧ 0 ≤ (limOf l).w2 ∧ (limOf l).w2 ≤ l.length := by
 have key : ∀ (l : List OpV) (s : LimS), s.acc ≤ (l.foldl limStep s).acc ∧ (l.foldl limStep s).acc ≤ s.acc + l.length ∧ s.fen ≤ (l.foldl limStep s).fen ∧ (l.foldl limStep s).fen ≤ s.fen + 2 * l.length ∧ s.w0 ≤ (l.foldl limStep s).w0 ∧ (l.foldl limStep s).w0 ≤ s.w0 + l.length ∧ s.w1 ≤ (l.foldl limStep s).w1 ∧ (l.foldl limStep s).w1 ≤ s.w1 + l.length ∧ s.w2 ≤ (l.foldl limStep s).w2 ∧ (l.foldl limStep s).w2 ≤ s.w2 + l.length := by
  intro l
  induction l with
  | nil => intro s; simp
  | cons o l ih =>
   intro s
   have := ih (limStep s o)
   simp only [List.foldl_cons, List.length_cons]
   have h2 : s.acc ≤ (limStep s o).acc ∧ (limStep s o).acc ≤ s.acc + 1 ∧ s.fen ≤ (limStep s o).fen ∧ (limStep s o).fen ≤ s.fen + 2 ∧ s.w0 ≤ (limStep s o).w0 ∧ (limStep s o).w0 ≤ s.w0 + 1 ∧ s.w1 ≤ (limStep s o).w1 ∧ (limStep s o).w1 ≤ s.w1 + 1 ∧ s.w2 ≤ (limStep s o).w2 ∧ (limStep s o).w2 ≤ s.w2 + 1 := by
    unfold limStep
    split
    ·simp; omega
    ·split
     ·simp only []
      refine ⟨?_, ?_, ?_, ?_, ?_, ?_, ?_, ?_, ?_, ?_⟩ <;> (repeat' split) <;> omega
     ·simp; omega
   omega
 have := key l ⟨0, 0, 0, 0, 0⟩
 dsimp only at this
 unfold limOf
 omega

theorem flat_take {α : Type} {ts : List (List α)} {i : Nat} (hi : i < ts.length) : (ts.take (i + 1)).flatten = (ts.take i).flatten ++ ts[i] := by
 rw [List.take_succ_eq_append_getElem hi, List.flatten_append]; simp

theorem flat_take_le {α : Type} (ts : List (List α)) (i : Nat) : (ts.take i).flatten.length ≤ ts.flatten.length := by
 have : ts.flatten = (ts.take i).flatten ++ (ts.drop i).flatten := by rw [← List.flatten_append, List.take_append_drop]
 rw [this]; simp

/-- Rows that a machine can hold. -/
structure Sized {α : Type} (ts : List (List α)) : Prop where
 len : ts.length ≤ 281474976710656
 each : ∀ t ∈ ts, t.length ≤ 281474976710656
theorem flat_le {α : Type} {B : Nat} : ∀ {ts : List (List α)}, (∀ t ∈ ts, t.length ≤ B) → ts.flatten.length ≤ ts.length * B
 | [], _ => by simp
 | t :: ts, h => by
  have h1 := flat_le (ts := ts) fun x hx => h x (List.mem_cons_of_mem _ hx)
  have h2 := h t (List.mem_cons_self ..)
  rw [List.flatten_cons, List.length_append, List.length_cons, Nat.succ_mul]; omega
theorem Sized.flat {α : Type} {ts : List (List α)} (h : Sized ts) (h3 : ts.length ≤ 3) : ts.flatten.length < 1000000000000000 := by
 have h1 := flat_le h.each
 have h2 : ts.length * 281474976710656 ≤ 3 * 281474976710656 := Nat.mul_le_mul_right _ h3
 omega

set_option maxHeartbeats 4000000 in
theorem litmus_limits_q (ts : List (List OpV)) (s : Value) (hs : SlSl M 5 encOp s ts) (hb : Sized ts) : ConQ Tryz.prog 63 #[.agg #[s]] M (vb (limitsP ts)) := by
 obtain ⟨a, c, vs, rfl, hl, hrd, hk⟩ := hs
 refine Con.enter Q59_ok (args := [.agg #[.slice a ts.length c]]) (by simp [Q59]) fun w0 => ?_
 simp only [Q59, argE]
 repeat' first
   | refine EV.seq ?_
   | refine EV.skip ?_
   | refine EV.block ?_
   | (refine EV.reg ?_; (conv => (arg 2; whnf)); (refine nx ?_; try with_reducible exact ⟨⟩))
   | (refine EV.condX rfl (fun h => ?_) (fun h => ?_) <;> try exact dead h)
   | (refine EV.ret Q59_ok ?_; simp only [wpS, wpA, wpQL, push_cast, Int.cast_ofNat_Int, reduceIte, Nat.reduceEqDiff, reduceCtorEq, Nat.reduceAdd, Nat.reduceSub, Nat.reduceMul, Int.reduceToNat, Nat.reduceLeDiff, Q59])
   | ((first | with_reducible intro b | refine xsA rfl ?_ | fail); try (refine nx ?_; try with_reducible exact ⟨⟩))
   | fail
 ·simp [limitsP]; omega
 rename_i b1
 have hlen3 : ts.length ≤ 3 := by omega
 have hb' := hb.2
 have hb := hb.flat hlen3
 refine EV.to (ρ' := [(3, vi (limOf (ts.take 0).flatten).acc), (4, vi (limOf (ts.take 0).flatten).fen), (5, pv b 0), (15, .slice a ts.length c), (16, vi ts.length), (17, vi (0 : Nat))])
  (G' := [(b, Cl 142 [vi (limOf (ts.take 0).flatten).w0, vi (limOf (ts.take 0).flatten).w1, vi (limOf (ts.take 0).flatten).w2])]) ?_ (by simp [get, limOf]) (by simp [limOf])
 refine EV.loop (fun i : Nat => ([(3, vi (limOf (ts.take i).flatten).acc), (4, vi (limOf (ts.take i).flatten).fen), (5, pv b 0), (15, .slice a ts.length c), (16, vi ts.length), (17, vi i)], M,
  [(b, Cl 142 [vi (limOf (ts.take i).flatten).w0, vi (limOf (ts.take i).flatten).w1, vi (limOf (ts.take i).flatten).w2])])) (fun i => i ≤ ts.length) (fun i => ts.length - i) 0 (Nat.zero_le _) ?_
 intro i hi ih
 dsimp only at ih ⊢
 repeat' first
   | refine EV.seq ?_
   | refine EV.skip ?_
   | refine EV.block ?_
   | (refine EV.reg ?_; (conv => (arg 2; whnf)); (refine nx ?_; try with_reducible exact ⟨⟩))
   | (refine ConQ.call (slices_Max_q _ _ 0 3 [_, _, _] (by simp) (by simp) (rd_own' 0 rfl rfl (by simp))) ?_; try (refine nx ?_; try with_reducible exact ⟨⟩))
   | with_reducible assumption
   | (refine condW.merge ?_ (fun hc K' hK => ?_) ?_; rotate_left)
   | (refine EV.condX rfl (fun h => ?_) (fun h => ?_) <;> try exact dead h)
   | (refine EV.exit rfl ?_)
   | (refine EV.ret Q59_ok ?_; simp only [wpS, wpA, wpQL, push_cast, Int.cast_ofNat_Int, reduceIte, Nat.reduceEqDiff, reduceCtorEq, Nat.reduceAdd, Nat.reduceSub, Nat.reduceMul, Int.reduceToNat, Nat.reduceLeDiff, Q59])
   | fail
 ·have hi' : i < ts.length := by omega
  obtain ⟨pb, po, rfl, hat⟩ := SlSl.at hrd hl hk (by omega)
  obtain ⟨a', c', hr1, hr2⟩ := hat i hi'
  simp only [Nat.mul_one] at hr1
  repeat' first
    | refine EV.seq ?_
    | refine EV.block ?_
    | (refine EV.reg ?_; (conv => (arg 2; whnf)); (refine nx ?_; try with_reducible exact ⟨⟩))
    | (refine And.intro (by omega) ?_)
    | (refine Exists.intro _ (Exists.intro _ (Exists.intro _ (And.intro (rd_M (by assumption)) ?_))); try (refine nx ?_; try with_reducible exact ⟨⟩))
    | fail
  have hlen : ((ts.take i).flatten ++ ts[i]).length ≤ ts.flatten.length := by rw [← flat_take hi']; exact flat_take_le ts (i + 1)
  simp only [List.length_append] at hlen
  let W : Nat → LimS := fun j => limOf ((ts.take i).flatten ++ ts[i].take j)
  refine EV.to (ρ' := [(3, vi (W 0).acc), (4, vi (W 0).fen), (5, pv b 0), (15, .slice (some ⟨pb, po, none⟩) ts.length c), (16, vi ts.length), (17, vi i), (21, .slice a' ts[i].length c'), (22, vi ts[i].length), (23, vi (0 : Nat))])
   (G' := [(b, Cl 142 [vi (W 0).w0, vi (W 0).w1, vi (W 0).w2])]) ?_ (by simp [get, W]) (by simp [W])
  refine EV.loop (fun j : Nat => ([(3, vi (W j).acc), (4, vi (W j).fen), (5, pv b 0), (15, .slice (some ⟨pb, po, none⟩) ts.length c), (16, vi ts.length), (17, vi i), (21, .slice a' ts[i].length c'), (22, vi ts[i].length), (23, vi j)], M,
   [(b, Cl 142 [vi (W j).w0, vi (W j).w1, vi (W j).w2])])) (fun j => j ≤ ts[i].length) (fun j => ts[i].length - j) 0 (Nat.zero_le _) ?_
  intro j hj ih2
  dsimp only at ih2 ⊢
  repeat' first
    | refine EV.seq ?_
    | refine EV.skip ?_
    | refine EV.block ?_
    | refine EV.inBlock ?_
    | (refine EV.reg ?_; (conv => (arg 2; whnf)); (refine nx ?_; try with_reducible exact ⟨⟩))
    | (refine EV.condX rfl (fun h => ?_) (fun h => ?_) <;> try exact dead h)
    | (refine EV.exit rfl ?_)
    | fail
  ·have hj' : j < ts[i].length := by omega
   obtain ⟨qb, qo, rfl, hat2⟩ := Sl.at (enc := encOp) (fun _ => rfl) (by omega) hr2 (by omega)
   have hr3 := hat2 j hj'
   have hW : W (j + 1) = limStep (W j) ts[i][j] := by
    simp only [W, limOf, List.take_succ_eq_append_getElem hj', ← List.append_assoc, List.foldl_append, List.foldl_cons, List.foldl_nil]
   have hWb := lim_bound ((ts.take i).flatten ++ ts[i].take j)
   have hWl : ((ts.take i).flatten ++ ts[i].take j).length < 1000000000000000 := by rw [List.length_append, List.length_take]; omega
   have fin : ∀ ρ G', (∀ p ∈ [(3, vi (W (j + 1)).acc), (4, vi (W (j + 1)).fen), (5, pv b 0), (15, .slice (some ⟨pb, po, none⟩) ts.length c), (16, vi ts.length), (17, vi i), (21, .slice (some ⟨qb, qo, none⟩) ts[i].length c'), (22, vi ts[i].length), (23, vi (j + 1 : Nat))], get ρ p.1 = some p.2) →
     [(b, Cl 142 [vi (W (j + 1)).w0, vi (W (j + 1)).w1, vi (W (j + 1)).w2])].Sublist G' → _ := fun ρ G' h1 h2 => EV.to (ρ := ρ) (G := G') (ih2 (j + 1) (by omega) (by omega)) h1 h2
   rw [hW] at fin
   have hWe : W j = limOf ((ts.take i).flatten ++ ts[i].take j) := rfl
   rw [← hWe] at hWb
   clear_value W
   have e1 : IntKind.i64.wrap ((W j).acc + 1) = (W j).acc + 1 := w64 (by omega) (by omega)
   have e2 : IntKind.i64.wrap ((W j).fen + 1) = (W j).fen + 1 := w64 (by omega) (by omega)
   have e3 : IntKind.i64.wrap ((W j).fen + 2) = (W j).fen + 2 := w64 (by omega) (by omega)
   have e4 : IntKind.i64.wrap ((W j).w0 + 1) = (W j).w0 + 1 := w64 (by omega) (by omega)
   have e5 : IntKind.i64.wrap ((W j).w1 + 1) = (W j).w1 + 1 := w64 (by omega) (by omega)
   have e6 : IntKind.i64.wrap ((W j).w2 + 1) = (W j).w2 + 1 := w64 (by omega) (by omega)
   have e7 : IntKind.i64.wrap ((j : Int) + 1) = ((j + 1 : Nat) : Int) := w64 (by omega) (by omega)
   clear ih ih2 hat hat2 hrd hk hr1 hr2 hWb hWl hWe hlen hW hb hb' hl
   generalize W j = s at *
   generalize ts[i][j] = o at *
   clear W
   repeat' first
     | refine EV.seq ?_
     | refine EV.skip ?_
     | refine EV.block ?_
     | refine EV.inBlock ?_
     | (refine EV.reg ?_; (conv => (arg 2; whnf)); (refine nx ?_; try with_reducible exact ⟨⟩))
     | (refine ConQ.call (litmus_access_q _) ?_; try (refine nx ?_; try with_reducible exact ⟨⟩))
     | with_reducible assumption
     | (refine condW.merge ?_ (fun hc K' hK => ?_) ?_; rotate_left)
     | (refine EV.condX rfl (fun h => ?_) (fun h => ?_) <;> try exact dead h)
     | (with_reducible intro b; try (refine nx ?_; try with_reducible exact ⟨⟩))
     | (refine And.intro (by omega) ?_)
     | ((first | refine Exists.intro _ (And.intro (rd_M (by assumption)) ?_) | refine xrA rfl ?_ | refine xiA rfl ?_ | fail); try (refine nx ?_; try with_reducible exact ⟨⟩))
     | (refine xw ?_; (refine nx ?_; try with_reducible exact ⟨⟩))
     | fail
   all_goals try refine fin _ _ ?_ ?_
   all_goals first
    | (simp [get, limStep, *]; done)
    | (simp [get, limStep, *]; grind)
    | skip
   all_goals
    have hloc : o.loc = 0 ∨ o.loc = 1 ∨ o.loc = 2 := by omega
    have hk0 : ¬ o.kind = 0 := by omega
    rcases hloc with hloc | hloc | hloc <;> rw [hloc] <;> simp only [Int.reduceToNat, Int.toNat_zero, Int.reduceLE, Int.reduceLT, true_and]
   all_goals repeat' first
     | refine EV.inBlock ?_
     | (refine EV.reg ?_; (conv => (arg 2; whnf)); (refine nx ?_; try with_reducible exact ⟨⟩))
     | (refine xiA rfl ?_; try (refine nx ?_; try with_reducible exact ⟨⟩))
     | (refine xw ?_; (refine nx ?_; try with_reducible exact ⟨⟩))
     | fail
   all_goals try refine fin _ _ ?_ ?_
   all_goals first
    | (simp [get, limStep, *]; done)
    | (simp [get, limStep, *]; grind)
    | skip
  ·have hj' : j = ts[i].length := by omega
   subst hj'
   have hf : (ts.take i).flatten ++ ts[i].take ts[i].length = (ts.take (i + 1)).flatten := by rw [flat_take hi', List.take_length]
   refine EV.to (ih (i + 1) (by omega) (by omega)) ?_ ?_
   ·clear ih ih2
    rw [← hf]
    simp [get, W]
    exact w64 (by omega) (by omega)
   ·rw [← hf]
    exact List.Sublist.refl _
 ·have hi3 : i = ts.length := by omega
  subst hi3
  rw [List.take_length]
  simp only [limitsP, mx, List.take_succ_cons, List.take_zero, List.foldl_cons, List.foldl_nil, List.headD_cons]
  congr 1
  have h3 : decide (ts.length ≤ 3) = true := by simpa using hlen3
  rw [h3]
  grind

end
end Go.EV

namespace Go.EV
open Go.Proofs
section
variable {M : PHeap}

def okOp (o : OpV) : Bool := mayR o.kind o.ord && mayP o.kind o.ord && fitsP o
def checkP (ts : List (List OpV)) : Int := if limitsP ts = false then 2 else if ts.length = 0 then 1 else if ts.flatten.all okOp = true then 0 else 1

theorem okOp_iff (o : OpV) : okOp o = true ↔ mayR o.kind o.ord = true ∧ mayP o.kind o.ord = true ∧ fitsP o = true := by
 simp [okOp, and_assoc]

set_option maxHeartbeats 4000000 in
theorem litmus_Check_q (ts : List (List OpV)) (s : Value) (hs : SlSl M 5 encOp s ts) (hb : Sized ts) : ConQ Tryz.prog 24 #[.agg #[s]] M (vi (checkP ts)) := by
 have hlim := fun G => litmus_limits_q (M := M.add G) ts s (hs.mono (PHeap.le_add _ _)) hb
 have hb' := hb.1
 have hbe := hb.2
 obtain ⟨a, c, vs, rfl, hl, hrd, hk⟩ := hs
 refine Con.enter Q53_ok (args := [.agg #[.slice a ts.length c]]) (by simp [Q53]) fun w0 => ?_
 simp only [Q53, argE]
 repeat' first
   | refine EV.seq ?_
   | refine EV.skip ?_
   | refine EV.block ?_
   | (refine EV.reg ?_; (conv => (arg 2; whnf)); (refine nx ?_; try with_reducible exact ⟨⟩))
   | (refine ConQ.call (hlim _) ?_; try (refine nx ?_; try with_reducible exact ⟨⟩))
   | (refine EV.condX rfl (fun h => ?_) (fun h => ?_) <;> try exact dead h)
   | (refine EV.ret Q53_ok ?_; simp only [wpS, wpA, wpQL, push_cast, Int.cast_ofNat_Int, reduceIte, Nat.reduceEqDiff, reduceCtorEq, Nat.reduceAdd, Nat.reduceSub, Nat.reduceMul, Int.reduceToNat, Nat.reduceLeDiff, Q53])
   | ((first | with_reducible intro b | refine xrA rfl ?_ | refine xsA rfl ?_ | fail); try (refine nx ?_; try with_reducible exact ⟨⟩))
   | fail
 ·simp [checkP, h]
 ·rename_i h1
  have : ts.length = 0 := by omega
  simp [checkP, this, h1]
 rename_i h1
 refine EV.to (ρ' := [(17, .slice a ts.length c), (18, vi ts.length), (19, vi (0 : Nat))]) (G' := []) ?_ (by simp (disch := omega) only [List.forall_mem_cons, List.not_mem_nil, false_implies, implies_true, and_true, true_and, get_cons, get_nil, reduceIte, Nat.reduceEqDiff, Option.some.injEq, Value.int.injEq, w64, Int.natCast_add, Int.natCast_one, Int.cast_ofNat_Int, Int.natCast_zero]) (by simp)
 refine EV.loop (fun i : Nat => ([(17, .slice a ts.length c), (18, vi ts.length), (19, vi i)], M, [])) (fun i => i ≤ ts.length ∧ (ts.take i).flatten.all okOp = true) (fun i => ts.length - i) 0 (by simp) ?_
 intro i ⟨hi, hok⟩ ih
 dsimp only at ih ⊢
 repeat' first
   | refine EV.seq ?_
   | refine EV.skip ?_
   | refine EV.block ?_
   | (refine EV.reg ?_; (conv => (arg 2; whnf)); (refine nx ?_; try with_reducible exact ⟨⟩))
   | (refine EV.condX rfl (fun h => ?_) (fun h => ?_) <;> try exact dead h)
   | (refine EV.exit rfl ?_)
   | (refine EV.ret Q53_ok ?_; simp only [wpS, wpA, wpQL, push_cast, Int.cast_ofNat_Int, reduceIte, Nat.reduceEqDiff, reduceCtorEq, Nat.reduceAdd, Nat.reduceSub, Nat.reduceMul, Int.reduceToNat, Nat.reduceLeDiff, Q53])
   | fail
 ·have hi' : i < ts.length := by omega
  obtain ⟨pb, po, rfl, hat⟩ := SlSl.at hrd hl hk (by omega)
  obtain ⟨a', c', hr1, hr2⟩ := hat i hi'
  simp only [Nat.mul_one] at hr1
  have hlen : ts[i].length ≤ ts.flatten.length := by have := flat_take hi'; have h2 := flat_take_le ts (i + 1); rw [this, List.length_append] at h2; omega
  have hbi := hbe ts[i] (List.getElem_mem hi')
  have hmem : ∀ o ∈ ts[i], o ∈ ts.flatten := fun o ho => List.mem_flatten.2 ⟨ts[i], List.getElem_mem hi', ho⟩
  repeat' first
    | refine EV.seq ?_
    | refine EV.block ?_
    | (refine EV.reg ?_; (conv => (arg 2; whnf)); (refine nx ?_; try with_reducible exact ⟨⟩))
    | (refine And.intro (by omega) ?_)
    | (refine Exists.intro _ (Exists.intro _ (Exists.intro _ (And.intro (rd_M (by assumption)) ?_))); try (refine nx ?_; try with_reducible exact ⟨⟩))
    | fail
  refine EV.to (ρ' := [(17, .slice (some ⟨pb, po, none⟩) ts.length c), (18, vi ts.length), (19, vi i), (23, .slice a' ts[i].length c'), (24, vi ts[i].length), (25, vi (0 : Nat))]) (G' := []) ?_ (by simp (disch := omega) only [List.forall_mem_cons, List.not_mem_nil, false_implies, implies_true, and_true, true_and, get_cons, get_nil, reduceIte, Nat.reduceEqDiff, Option.some.injEq, Value.int.injEq, w64, Int.natCast_add, Int.natCast_one, Int.cast_ofNat_Int, Int.natCast_zero]) (by simp)
  refine EV.loop (fun j : Nat => ([(17, .slice (some ⟨pb, po, none⟩) ts.length c), (18, vi ts.length), (19, vi i), (23, .slice a' ts[i].length c'), (24, vi ts[i].length), (25, vi j)], M, [])) (fun j => j ≤ ts[i].length ∧ (ts[i].take j).all okOp = true) (fun j => ts[i].length - j) 0 (by simp) ?_
  intro j ⟨hj, hok2⟩ ih2
  dsimp only at ih2 ⊢
  repeat' first
    | refine EV.seq ?_
    | refine EV.skip ?_
    | refine EV.block ?_
    | refine EV.inBlock ?_
    | (refine EV.reg ?_; (conv => (arg 2; whnf)); (refine nx ?_; try with_reducible exact ⟨⟩))
    | (refine EV.condX rfl (fun h => ?_) (fun h => ?_) <;> try exact dead h)
    | (refine EV.exit rfl ?_)
    | fail
  ·have hj' : j < ts[i].length := by omega
   obtain ⟨qb, qo, rfl, hat2⟩ := Sl.at (enc := encOp) (fun _ => rfl) (by omega) hr2 (by omega)
   have hr3 := hat2 j hj'
   repeat' first
     | refine EV.seq ?_
     | refine EV.skip ?_
     | refine EV.inBlock ?_
     | (refine EV.reg ?_; (conv => (arg 2; whnf)); (refine nx ?_; try with_reducible exact ⟨⟩))
     | ((first | refine ConQ.call (litmus_fits_q _) ?_ | refine ConQ.call (order_May_q _ _) ?_ | fail); try (refine nx ?_; try with_reducible exact ⟨⟩))
     | with_reducible assumption
     | (refine condW.merge ?_ (fun hc K' hK => ?_) ?_; rotate_left)
     | (refine EV.condX rfl (fun h => ?_) (fun h => ?_) <;> try exact dead h)
     | (refine EV.ret Q53_ok ?_; simp only [wpS, wpA, wpQL, push_cast, Int.cast_ofNat_Int, reduceIte, Nat.reduceEqDiff, reduceCtorEq, Nat.reduceAdd, Nat.reduceSub, Nat.reduceMul, Int.reduceToNat, Nat.reduceLeDiff, Q53])
     | (with_reducible intro b; try (refine nx ?_; try with_reducible exact ⟨⟩))
     | (refine And.intro (by omega) ?_)
     | ((first | refine Exists.intro _ (And.intro (rd_M (by assumption)) ?_) | refine xrA rfl ?_ | refine xiA rfl ?_ | fail); try (refine nx ?_; try with_reducible exact ⟨⟩))
     | (refine xw ?_; (refine nx ?_; try with_reducible exact ⟨⟩))
     | fail
   ·have hno : okOp ts[i][j] = false := by
     cases hq : okOp ts[i][j] with
     | false => rfl
     | true => obtain ⟨q1, q2, q3⟩ := (okOp_iff _).1 hq; simp [q1, q2, q3] at h
    have hne : ts.flatten.all okOp = false := by
     rw [List.all_eq_false]
     exact ⟨ts[i][j], hmem _ (List.getElem_mem hj'), by simp [hno]⟩
    have h0 : ¬ ts.length = 0 := by omega
    simp [checkP, h1, h0, hne]
   ·have hyes : okOp ts[i][j] = true := by
     rw [okOp_iff]
     grind
    refine EV.to (ih2 (j + 1) ⟨by omega, ?_⟩ (by omega)) ?_ (by simp)
    ·rw [List.take_succ_eq_append_getElem hj', List.all_append, hok2]
     simp [hyes]
    ·repeat' first
      | (refine List.forall_mem_cons.2 (And.intro ?_ ?_))
      | (intro _ hnil; cases hnil; done)
      | rfl
      | (refine env_w64 rfl (by first | rfl | (push_cast; first | rfl | omega)) (by omega) (by omega); done)
      | fail
  ·have hj' : j = ts[i].length := by omega
   subst hj'
   refine EV.to (ih (i + 1) ⟨by omega, ?_⟩ (by omega)) ?_ (by simp)
   ·rw [flat_take hi', List.all_append, hok, Bool.true_and]
    rwa [List.take_length] at hok2
   ·repeat' first
     | (refine List.forall_mem_cons.2 (And.intro ?_ ?_))
     | (intro _ hnil; cases hnil; done)
     | rfl
     | (refine env_w64 rfl (by first | rfl | (push_cast; first | rfl | omega)) (by omega) (by omega); done)
     | fail
 ·have hi3 : i = ts.length := by omega
  subst hi3
  rw [List.take_length] at hok
  have h0 : ¬ ts.length = 0 := by omega
  simp [checkP, hok, h1, h0]

end
end Go.EV

namespace Go.EV
open Go.Proofs

section
variable {M : PHeap}

abbrev sfence : OpV := ⟨5, 0, 0, 0, 4⟩

theorem litmus_strongFence_q : ConQ Tryz.prog 73 #[] M (vop sfence) := by
 refine Con.enter Q61_ok (args := []) (by simp [Q61]) fun w0 => ?_
 simp only [Q61, argE]
 repeat' first
   | refine EV.seq ?_
   | (refine EV.reg ?_; (conv => (arg 2; whnf)); (refine nx ?_; try with_reducible exact ⟨⟩))
   | (refine EV.ret Q61_ok ?_; simp only [wpS, wpA, wpQL, push_cast, Int.cast_ofNat_Int, reduceIte, Nat.reduceEqDiff, reduceCtorEq, Nat.reduceAdd, Nat.reduceSub, Nat.reduceMul, Int.reduceToNat, Nat.reduceLeDiff, Q61])
   | ((first | with_reducible intro b | refine xrA rfl ?_ | fail); try (refine nx ?_; try with_reducible exact ⟨⟩))
   | (refine xw ?_; (refine nx ?_; try with_reducible exact ⟨⟩))
   | fail
 all_goals rfl

def expOp (o : OpV) : List OpV := if accessP o = false ∨ o.ord ≠ 4 then [o] else [sfence, { o with ord := plainP o.kind o.ord }, sfence]

theorem litmus_Expand_S1_c (o : OpV) (f : Bool) (ho : okOp o = true) : Con Tryz.prog 70 #[vop o, vb f] M [] fun v _ G' => ∃ b, v = .slice (some ⟨b, 0, none⟩) (expOp o).length (expOp o).length ∧ G' = [(b, Cl 83 ((expOp o).flatMap encOp))] := by
 obtain ⟨q1, q2, q3⟩ := (okOp_iff o).1 ho
 refine Con.enter Q55_ok (args := [vop o, vb f]) (by simp [Q55]) fun w0 => ?_
 simp only [Q55, argE]
 repeat' first
   | refine EV.seq ?_
   | refine EV.skip ?_
   | (refine EV.reg ?_; (conv => (arg 2; whnf)); (refine nx ?_; try with_reducible exact ⟨⟩))
   | (refine ConQ.call (litmus_access_q _) ?_; try (refine nx ?_; try with_reducible exact ⟨⟩))
   | with_reducible assumption
   | (refine condW.merge ?_ (fun hc K' hK => ?_) ?_; rotate_left)
   | (refine EV.condX rfl (fun h => ?_) (fun h => ?_) <;> try exact dead h)
   | ((first | with_reducible intro b | refine xrA rfl ?_ | refine xiA rfl ?_ | fail); try (refine nx ?_; try with_reducible exact ⟨⟩))
   | fail
 ·refine EV.to (ρ' := [(4, .slice (some ⟨b, 0, none⟩) 1 1)]) (G' := [(b, Cl 83 (encOp o))]) ?_ (by simp (disch := omega) only [List.forall_mem_cons, List.not_mem_nil, false_implies, implies_true, and_true, true_and, get_cons, get_nil, reduceIte, Nat.reduceEqDiff, Option.some.injEq, Value.int.injEq, w64, Int.natCast_add, Int.natCast_one, Int.cast_ofNat_Int, Int.natCast_zero]) (by simp)
  refine EV.ret Q55_ok ?_
  simp only [wpS, wpA, wpQL, push_cast, Int.cast_ofNat_Int, reduceIte, Nat.reduceEqDiff, reduceCtorEq, Nat.reduceAdd, Nat.reduceSub, Nat.reduceMul, Int.reduceToNat, Nat.reduceLeDiff, Q55]
  have he : expOp o = [o] := by simp [expOp, h]
  exact ⟨b, by rw [he]; rfl, by rw [he]; rfl⟩
 ·have h5 : o.kind ≠ 5 := by
   intro h5
   have := h.1
   simp [accessP, h5] at this
  refine ConQ.call (order_Plain_q _ _ q1 q2 h5) ?_
  simp only [wpS, wpA, wpQL, push_cast, Int.cast_ofNat_Int, reduceIte, Nat.reduceEqDiff, reduceCtorEq, Nat.reduceAdd, Nat.reduceSub, Nat.reduceMul, Int.reduceToNat, Nat.reduceLeDiff]
  repeat' first
    | refine EV.seq ?_
    | (refine EV.any _ (List.Sublist.refl _) ?_; (conv => (arg 2; whnf)); (refine nx ?_; try with_reducible exact ⟨⟩))
    | ((first | refine ConQ.call (litmus_strongFence_q) ?_ | with_reducible intro b | refine xrA rfl ?_ | fail); try (refine nx ?_; try with_reducible exact ⟨⟩))
    | (refine xw ?_; (refine nx ?_; try with_reducible exact ⟨⟩))
    | (refine And.intro (PHeap.le_refl _) (And.intro (fun p hp => hp) ?_))
    | fail
  have he : expOp o = [sfence, { o with ord := plainP o.kind o.ord }, sfence] := by simp [expOp, h]
  rename_i b1
  refine EV.to (ρ' := [(4, .slice (some ⟨b, 0, none⟩) 3 3)]) (G' := [(b, Cl 83 (encOp sfence ++ encOp { o with ord := plainP o.kind o.ord } ++ encOp sfence))]) ?_ (by simp (disch := omega) only [List.forall_mem_cons, List.not_mem_nil, false_implies, implies_true, and_true, true_and, get_cons, get_nil, reduceIte, Nat.reduceEqDiff, Option.some.injEq, Value.int.injEq, w64, Int.natCast_add, Int.natCast_one, Int.cast_ofNat_Int, Int.natCast_zero]) (by simp)
  refine EV.ret Q55_ok ?_
  simp only [wpS, wpA, wpQL, push_cast, Int.cast_ofNat_Int, reduceIte, Nat.reduceEqDiff, reduceCtorEq, Nat.reduceAdd, Nat.reduceSub, Nat.reduceMul, Int.reduceToNat, Nat.reduceLeDiff, Q55]
  exact ⟨b, by rw [he]; rfl, by rw [he]; rfl⟩

end
end Go.EV

namespace Go.EV
open Go.Proofs

end Go.EV

namespace Go.EV
open Go.Proofs

def rebGo (f : OpV → Bool → List OpV) : Bool → List OpV → List OpV
 | _, [] => []
 | b, o :: l => f o b ++ rebGo f (b && !accessP o) l

def noAcc (l : List OpV) : Bool := l.all fun o => !accessP o

theorem rebGo_append (f : OpV → Bool → List OpV) : ∀ (l1 : List OpV) (b : Bool) (l2 : List OpV), rebGo f b (l1 ++ l2) = rebGo f b l1 ++ rebGo f (b && noAcc l1) l2
 | [], b, l2 => by simp [rebGo, noAcc]
 | o :: l1, b, l2 => by simp [rebGo, rebGo_append f l1, noAcc, Bool.and_assoc]

theorem rebGo_take (f : OpV → Bool → List OpV) {l : List OpV} {j : Nat} (hj : j < l.length) : rebGo f true (l.take (j + 1)) = rebGo f true (l.take j) ++ f l[j] (noAcc (l.take j)) := by
 rw [List.take_succ_eq_append_getElem hj, rebGo_append]; simp [rebGo]

theorem rebGo_len {f : OpV → Bool → List OpV} {l : List OpV} (hf : ∀ o ∈ l, ∀ b, (f o b).length ≤ 3) : ∀ b, (rebGo f b l).length ≤ 3 * l.length := by
 induction l with
 | nil => intro b; simp [rebGo]
 | cons o l ih =>
  intro b
  have h1 := hf o (by simp) b
  have h2 := ih (fun o' ho' => hf o' (by simp [ho'])) (b && !accessP o)
  simp [rebGo]; omega

theorem noAcc_take {l : List OpV} {j : Nat} (hj : j < l.length) : noAcc (l.take (j + 1)) = (noAcc (l.take j) && !accessP l[j]) := by
 unfold noAcc
 rw [List.take_succ_eq_append_getElem hj, List.all_append]; simp

section
variable {M : PHeap}

/-- What a function that takes the place of an operation promises. -/
def ByC (P : Program) (T g : Nat) (f : OpV → Bool → List OpV) (l : List OpV) : Prop :=
 ∀ (M : PHeap) (o : OpV) (b : Bool), o ∈ l → (f o b).length ≤ 3 ∧ Con P g #[vop o, vb b] M [] fun v _ G' => ∃ ov, v = osv ov (f o b).length ∧ osok 5 ov (f o b).length ((f o b).flatMap encOp) ∧ G' = osg T ov ((f o b).flatMap encOp)

theorem ok1_ops (l : List OpV) : ok1 (l.flatMap encOp) := by
 intro v hv
 simp only [List.mem_flatMap] at hv
 obtain ⟨o, _, hv⟩ := hv
 simp at hv
 rcases hv with rfl | rfl | rfl | rfl | rfl <;> rfl

set_option maxHeartbeats 4000000 in
theorem litmus_rebuilt_c (f : OpV → Bool → List OpV) (g : Nat) (ts : List (List OpV)) (s : Value) (hs : SlSl M 5 encOp s ts) (hb : ts.flatten.length < 1000000) (hb' : ts.length < 1000000)
  (hg : ByC Tryz.prog 83 g f ts.flatten) :
  Con Tryz.prog 69 #[.agg #[s], .func (.func g) #[] #[]] M [] fun v M' _ => ∃ s', v = .agg #[s'] ∧ SlSl M' 5 encOp s' (ts.map (rebGo f true)) := by
 obtain ⟨a, c, vs, rfl, hl, hrd, hk⟩ := hs
 refine Con.enter Q60_ok (args := [.agg #[.slice a ts.length c], .func (.func g) #[] #[]]) (by simp [Q60]) fun w0 => ?_
 simp only [Q60, argE]
 repeat' first
   | refine EV.seq ?_
   | refine EV.block ?_
   | (refine EV.reg ?_; (conv => (arg 2; whnf)); (refine nx ?_; try with_reducible exact ⟨⟩))
   | ((first | with_reducible intro b | refine xsA rfl ?_ | fail); try (refine nx ?_; try with_reducible exact ⟨⟩))
   | fail
 rename_i b2 b4
 refine EV.to (ρ' := [(1, .func (.func g) #[] #[]), (4, pv b4 0), (5, pv b 0), (13, .slice a ts.length c), (14, vi ts.length), (15, vi (0 : Nat))])
  (G' := [(b, Cl 24 [osv none 0]), (b4, Cl 24 [.slice none 0 0])] ++ osg 70 none []) ?_ ?env0 (by (repeat' first | exact List.Sublist.refl _ | exact List.nil_sublist _ | exact List.sublist_append_left _ _ | refine List.Sublist.cons_cons _ ?_ | refine List.Sublist.append_left ?_ _ | refine List.sublist_append_of_sublist_right ?_ | refine List.Sublist.cons _ ?_))
 case env0 =>
  repeat' first
   | (refine List.forall_mem_cons.2 (And.intro ?_ ?_))
   | (intro _ hnil; cases hnil; done)
   | rfl
   | fail
 refine EV.loop (fun x : Nat × PHeap × Vec × List Value => ([(1, .func (.func g) #[] #[]), (4, pv b4 0), (5, pv b 0), (13, .slice a ts.length c), (14, vi ts.length), (15, vi x.1)], x.2.1,
   [(b, Cl 24 [osv x.2.2.1 x.1]), (b4, Cl 24 [.slice none 0 0])] ++ osg 70 x.2.2.1 x.2.2.2))
  (fun x => x.1 ≤ ts.length ∧ M.le x.2.1 ∧ osok 1 x.2.2.1 x.1 x.2.2.2 ∧ x.2.2.2.length = x.1 ∧ ∀ k (h : k < x.2.2.2.length) (h' : k < ts.length), Sl x.2.1 5 encOp x.2.2.2[k] (rebGo f true ts[k]))
  (fun x => ts.length - x.1) (0, M, none, []) ⟨Nat.zero_le _, PHeap.le_refl _, ⟨rfl, rfl⟩, rfl, fun k h => absurd h (by simp)⟩ ?_
 rintro ⟨i, Mi, oq, vs'⟩ ⟨hi, hMi, hoq, hlen', hSl⟩ ih
 dsimp only at hi hMi hoq hlen' hSl ih ⊢
 repeat' first
   | refine EV.seq ?_
   | refine EV.skip ?_
   | refine EV.block ?_
   | (refine EV.reg ?_; (conv => (arg 2; whnf)); (refine nx ?_; try with_reducible exact ⟨⟩))
   | (refine EV.condX rfl (fun h => ?_) (fun h => ?_) <;> try exact dead h)
   | (refine EV.exit rfl ?_)
   | (refine xrA rfl ?_; try (refine nx ?_; try with_reducible exact ⟨⟩))
   | (refine xw ?_; (refine nx ?_; try with_reducible exact ⟨⟩))
   | fail
 ·have hi' : i < ts.length := by omega
  obtain ⟨pb, po, rfl, hat⟩ := SlSl.at (hrd.mono hMi) hl (fun k h h' => (hk k h h').mono hMi) (by omega)
  obtain ⟨a', c', hr1, hr2⟩ := hat i hi'
  simp only [Nat.mul_one] at hr1
  have hlen : ts[i].length ≤ ts.flatten.length := by have := flat_take hi'; have h2 := flat_take_le ts (i + 1); rw [this, List.length_append] at h2; omega
  have hmem : ∀ o ∈ ts[i], o ∈ ts.flatten := fun o ho => List.mem_flatten.2 ⟨ts[i], List.getElem_mem hi', ho⟩
  repeat' first
    | refine EV.seq ?_
    | refine EV.block ?_
    | (refine EV.reg ?_; (conv => (arg 2; whnf)); (refine nx ?_; try with_reducible exact ⟨⟩))
    | (refine And.intro (by omega) ?_)
    | (refine Exists.intro _ (Exists.intro _ (Exists.intro _ (And.intro (rd_M (by assumption)) ?_))); try (refine nx ?_; try with_reducible exact ⟨⟩))
    | fail
  refine EV.to (ρ' := [(1, .func (.func g) #[] #[]), (4, pv b4 0), (5, pv b 0), (8, osv none (rebGo f true (ts[i].take 0)).length), (9, vb (noAcc (ts[i].take 0))), (13, .slice (some ⟨pb, po, none⟩) ts.length c), (14, vi ts.length), (15, vi i), (19, .slice a' ts[i].length c'), (20, vi ts[i].length), (21, vi (0 : Nat))])
   (G' := [(b, Cl 24 [osv oq i]), (b4, Cl 24 [.slice none 0 0])] ++ (osg 70 oq vs' ++ osg 83 none ((rebGo f true (ts[i].take 0)).flatMap encOp))) ?_ ?env1 (by simp only [osg, List.append_nil]; exact List.Sublist.refl _)
  case env1 =>
   repeat' first
    | (refine List.forall_mem_cons.2 (And.intro ?_ ?_))
    | (intro _ hnil; cases hnil; done)
    | rfl
    | fail
  refine EV.loop (fun x : Nat × Vec => ([(1, .func (.func g) #[] #[]), (4, pv b4 0), (5, pv b 0), (8, osv x.2 (rebGo f true (ts[i].take x.1)).length), (9, vb (noAcc (ts[i].take x.1))), (13, .slice (some ⟨pb, po, none⟩) ts.length c), (14, vi ts.length), (15, vi i), (19, .slice a' ts[i].length c'), (20, vi ts[i].length), (21, vi x.1)], Mi,
    [(b, Cl 24 [osv oq i]), (b4, Cl 24 [.slice none 0 0])] ++ (osg 70 oq vs' ++ osg 83 x.2 ((rebGo f true (ts[i].take x.1)).flatMap encOp))))
   (fun x => x.1 ≤ ts[i].length ∧ osok 5 x.2 (rebGo f true (ts[i].take x.1)).length ((rebGo f true (ts[i].take x.1)).flatMap encOp))
   (fun x => ts[i].length - x.1) (0, none) ⟨Nat.zero_le _, rfl, rfl⟩ ?_
  rintro ⟨j, ov⟩ ⟨hj, hov⟩ ih2
  dsimp only at hj hov ih2 ⊢
  repeat' first
    | refine EV.seq ?_
    | refine EV.skip ?_
    | refine EV.block ?_
    | (refine EV.reg ?_; (conv => (arg 2; whnf)); (refine nx ?_; try with_reducible exact ⟨⟩))
    | (refine EV.condX rfl (fun h => ?_) (fun h => ?_) <;> try exact dead h)
    | (refine EV.exit rfl ?_)
    | ((first | with_reducible intro b | refine xsA rfl ?_ | fail); try (refine nx ?_; try with_reducible exact ⟨⟩))
    | fail
  ·have hj' : j < ts[i].length := by omega
   obtain ⟨qb, qo, rfl, hat2⟩ := Sl.at (enc := encOp) (fun _ => rfl) (by omega) hr2 (by omega)
   have hr3 := hat2 j hj'
   repeat' first
     | refine EV.seq ?_
     | (refine EV.reg ?_; (conv => (arg 2; whnf)); (refine nx ?_; try with_reducible exact ⟨⟩))
     | (with_reducible intro b; try (refine nx ?_; try with_reducible exact ⟨⟩))
     | (refine And.intro (by omega) ?_)
     | ((first | refine Exists.intro _ (And.intro (rd_M (by assumption)) ?_) | refine xrA rfl ?_ | fail); try (refine nx ?_; try with_reducible exact ⟨⟩))
     | (refine xw ?_; (refine nx ?_; try with_reducible exact ⟨⟩))
     | fail
   have hgj := fun M => hg M ts[i][j] (noAcc (ts[i].take j)) (hmem _ (List.getElem_mem hj'))
   have hlen3 := (hgj M).1
   refine Con.callB (G1 := []) (hgj _).2 (PHeap.le_refl _) (List.Perm.refl _) ?_
   rintro v M' G' ⟨ov', rfl, hov', rfl⟩
   simp only [wpS, wpA, wpQL, push_cast, Int.cast_ofNat_Int, reduceIte, Nat.reduceEqDiff, reduceCtorEq, Nat.reduceAdd, Nat.reduceSub, Nat.reduceMul, Int.reduceToNat, Nat.reduceLeDiff]
   have hrl : (rebGo f true (ts[i].take j)).length ≤ 3 * (ts[i].take j).length := rebGo_len (fun o ho b => (hg M o b (hmem _ (List.mem_of_mem_take ho))).1) true
   have htl : (ts[i].take j).length ≤ j := by simp; omega
   refine ⟨_, rd_osg (T := 83) hov' (fun p hp => by simp [hp]), ok1_ops _, Or.inl ⟨ov, _, rfl, _, hov, _, cat_pull [[_, _, _], osg 70 oq vs', osg 83 ov _, osg 83 ov' _] 2 (by simp), ?_, ?_, ?_⟩⟩
   ·simp only [maxLen]; omega
   ·omega
   intro o' ho' _
   simp only [List.eraseIdx_cons_succ, List.eraseIdx_cons_zero, List.getElem_cons_succ, List.getElem_cons_zero, List.insertIdx_zero, List.insertIdx_succ_cons, cat_two, cat_one, cat_nil, List.nil_append, List.cons_append, List.append_assoc, List.append_nil]
   repeat' first
     | refine EV.inBlock ?_
     | (refine EV.reg ?_; (conv => (arg 2; whnf)); (refine nx ?_; try with_reducible exact ⟨⟩))
     | (refine ConQ.call (litmus_access_q _) ?_; try (refine nx ?_; try with_reducible exact ⟨⟩))
     | with_reducible assumption
     | (refine condW.merge ?_ (fun hc K' hK => ?_) ?_; rotate_left)
     | (refine xrA rfl ?_; try (refine nx ?_; try with_reducible exact ⟨⟩))
     | fail
   have e := rebGo_take (f := f) hj'
   have ih3 := ih2 (j + 1, o') ⟨by dsimp only; omega, by rw [e, List.length_append, List.flatMap_append]; exact ho'⟩ (by dsimp only; omega)
   dsimp only at ih3
   rw [noAcc_take hj', e, List.length_append, List.flatMap_append] at ih3
   refine EV.to ih3 ?_ (by (repeat' first | exact List.Sublist.refl _ | exact List.nil_sublist _ | exact List.sublist_append_left _ _ | refine List.Sublist.cons_cons _ ?_ | refine List.Sublist.append_left ?_ _ | refine List.sublist_append_of_sublist_right ?_ | refine List.Sublist.cons _ ?_))
   repeat' first
    | (refine List.forall_mem_cons.2 (And.intro ?_ ?_))
    | (intro _ hnil; cases hnil; done)
    | rfl
    | (refine env_w64 rfl (by first | rfl | (push_cast; first | rfl | omega)) (by omega) (by omega); done)
    | fail
  ·have hj' : j = ts[i].length := by omega
   subst hj'
   rw [List.take_length] at hov ⊢
   refine ⟨[osv ov (rebGo f true ts[i]).length], Or.inr ⟨b, 0, rfl, rd_own' 0 rfl rfl (by simp)⟩, by simp [ok1_cons, ok1_nil, Value.oneCell'], Or.inl ⟨oq, i, rfl, vs', hoq, _, cat_pull [[_, _, _], osg 70 oq vs', osg 83 ov _] 1 (by simp), ?_, ?_, ?_⟩⟩
   ·simp only [maxLen]; omega
   ·omega
   intro o' ho' _
   simp only [List.eraseIdx_cons_succ, List.eraseIdx_cons_zero, List.getElem_cons_succ, List.getElem_cons_zero, List.insertIdx_zero, List.insertIdx_succ_cons, cat_two, cat_one, cat_nil, List.nil_append, List.cons_append, List.append_assoc, List.append_nil]
   repeat' first
     | refine EV.inBlock ?_
     | (refine EV.reg ?_; (conv => (arg 2; whnf)); (refine nx ?_; try with_reducible exact ⟨⟩))
     | (refine xw ?_; (refine nx ?_; try with_reducible exact ⟨⟩))
     | fail
   refine EV.permG ?_ (cat_pull [[_, _, _], osg 83 ov _, osg 70 o' _] 1 (by simp))
   simp only [List.eraseIdx_cons_succ, List.eraseIdx_cons_zero, List.getElem_cons_succ, List.getElem_cons_zero, List.insertIdx_zero, List.insertIdx_succ_cons, cat_two, cat_one, cat_nil, List.nil_append, List.cons_append, List.append_assoc, List.append_nil]
   refine EV.freeze ?_
   have ih3 := ih (i + 1, Mi.add (osg 83 ov ((rebGo f true ts[i]).flatMap encOp)), o', vs' ++ [osv ov (rebGo f true ts[i]).length]) ⟨by dsimp only; omega, PHeap.le_trans hMi (PHeap.le_add _ _), ho', by simp [hlen'], ?_⟩ (by dsimp only; omega)
   dsimp only at ih3
   refine EV.to ih3 ?_ (by (repeat' first | exact List.Sublist.refl _ | exact List.nil_sublist _ | exact List.sublist_append_left _ _ | refine List.Sublist.cons_cons _ ?_ | refine List.Sublist.append_left ?_ _ | refine List.sublist_append_of_sublist_right ?_ | refine List.Sublist.cons _ ?_))
   ·repeat' first
     | (refine List.forall_mem_cons.2 (And.intro ?_ ?_))
     | (intro _ hnil; cases hnil; done)
     | rfl
     | (refine env_w64 rfl (by first | rfl | (push_cast; first | rfl | omega)) (by omega) (by omega); done)
     | fail
   ·intro k hk1 hk2
    dsimp only at hk1 hk2 ⊢
    by_cases hkl : k < vs'.length
    ·rw [List.getElem_append_left hkl]
     exact (hSl k hkl hk2).mono (PHeap.le_add _ _)
    ·have : k = i := by simp at hk1; omega
     subst this
     rw [List.getElem_append_right (by omega)]
     simp only [hlen', Nat.sub_self, List.getElem_cons_zero]
     exact ⟨_, _, rfl, rd_osg hov (fun p hp => hp)⟩
 ·have hi2 : i = ts.length := by omega
  subst hi2
  refine EV.permG ?_ (cat_pull [[_, _], osg 70 oq vs'] 1 (by simp))
  simp only [List.eraseIdx_cons_succ, List.eraseIdx_cons_zero, List.getElem_cons_succ, List.getElem_cons_zero, List.insertIdx_zero, List.insertIdx_succ_cons, cat_two, cat_one, cat_nil, List.nil_append, List.cons_append, List.append_assoc, List.append_nil]
  refine EV.freeze ?_
  refine EV.ret Q60_ok ?_
  simp only [wpS, wpA, wpQL, push_cast, Int.cast_ofNat_Int, reduceIte, Nat.reduceEqDiff, reduceCtorEq, Nat.reduceAdd, Nat.reduceSub, Nat.reduceMul, Int.reduceToNat, Nat.reduceLeDiff, Q60]
  refine ⟨_, rd_own' 1 rfl rfl (by simp), _, rfl, oad oq, ocap oq, vs', by simp, by simpa using hlen', ?_, ?_⟩
  ·simpa using rd_osg hoq (fun p hp => hp)
  ·intro k h1 h2
   simp only [List.getElem_map]
   exact (hSl k h1 (by simpa using h2)).mono (PHeap.le_add _ _)

end
end Go.EV

namespace Go.EV
open Go.Proofs

def expT (l : List OpV) : List OpV := l.flatMap expOp

theorem rebGo_exp : ∀ (b : Bool) (l : List OpV), rebGo (fun o _ => expOp o) b l = expT l
 | _, [] => rfl
 | b, o :: l => by rw [rebGo, rebGo_exp]; simp [expT]

theorem checkP_zero {ts : List (List OpV)} (h : checkP ts = 0) : limitsP ts = true ∧ ts.length ≠ 0 ∧ ts.flatten.all okOp = true := by
 unfold checkP at h
 split at h
 ·omega
 ·split at h
  ·omega
  ·split at h
   ·rename_i h1 h2 h3; exact ⟨by simpa using h1, h2, h3⟩
   ·omega

/-- A program that is fit is small. -/
theorem checkP_small {ts : List (List OpV)} (h : checkP ts = 0) : ts.flatten.length ≤ 14 ∧ ts.length ≤ 3 := by
 obtain ⟨hl, _, hall⟩ := checkP_zero h
 have key : ∀ (l : List OpV) (s : LimS), (∀ o ∈ l, okOp o = true) → (l.length : Int) + s.acc + s.fen ≤ (l.foldl limStep s).acc + (l.foldl limStep s).fen := by
  intro l
  induction l with
  | nil => intro s _; simp
  | cons o l ih =>
   intro s h
   have ih2 := ih (limStep s o) (fun x hx => h x (List.mem_cons_of_mem _ hx))
   obtain ⟨q1, _, _⟩ := (okOp_iff o).1 (h o (List.mem_cons_self ..))
   have hk : 0 ≤ o.kind ∧ o.kind < 6 := by simp only [mayR, Bool.and_eq_true, decide_eq_true_eq] at q1; exact q1.1
   have h1 : s.acc + s.fen + 1 ≤ (limStep s o).acc + (limStep s o).fen := by
    unfold limStep
    split
    ·dsimp only; omega
    ·rw [if_pos (by simp [accessP]; omega)]
     dsimp only
     split <;> omega
   rw [List.foldl_cons, List.length_cons]
   omega
 have := key ts.flatten ⟨0, 0, 0, 0, 0⟩ (List.all_eq_true.1 hall)
 simp only [limitsP, Bool.and_eq_true, decide_eq_true_eq] at hl
 have e : (limOf ts.flatten) = ts.flatten.foldl limStep ⟨0, 0, 0, 0, 0⟩ := rfl
 rw [← e] at this
 dsimp only at this
 exact ⟨by omega, by omega⟩

theorem expOp_len (o : OpV) : (expOp o).length ≤ 3 := by
 unfold expOp; split <;> simp

section
variable {M : PHeap}

theorem exp_byC {l : List OpV} (hl : ∀ o ∈ l, okOp o = true) : ByC Tryz.prog 83 70 (fun o _ => expOp o) l := by
 intro M o b ho
 refine ⟨expOp_len o, (litmus_Expand_S1_c o b (hl o ho)).mono ?_⟩
 rintro v M' G' ⟨bb, rfl, rfl⟩
 refine ⟨some (bb, (expOp o).length, []), rfl, ⟨?_, ?_, Nat.le_refl _, ?_⟩, by simp [osg]⟩
 ·rw [flatMap_length (sz := 5) (fun _ => rfl)]
 ·rw [List.append_nil, flatMap_length (sz := 5) (fun _ => rfl)]
 ·have := expOp_len o; simp only [maxLen]; omega

theorem litmus_Expand_c (ts : List (List OpV)) (s : Value) (hs : SlSl M 5 encOp s ts) (hb : Sized ts) :
  Con Tryz.prog 30 #[.agg #[s]] M [] fun v M' _ => (checkP ts ≠ 0 ∧ v = .tuple #[.agg #[.slice none 0 0], vi (checkP ts)]) ∨ (checkP ts = 0 ∧ ∃ s', v = .tuple #[.agg #[s'], vi 0] ∧ SlSl M' 5 encOp s' (ts.map expT)) := by
 have hs0 := hs
 obtain ⟨a, c, vs, rfl, hl, hrd, hk⟩ := hs
 refine Con.enter Q54_ok (args := [.agg #[.slice a ts.length c]]) (by simp [Q54]) fun w0 => ?_
 simp only [Q54, argE]
 repeat' first
   | refine EV.seq ?_
   | refine EV.skip ?_
   | (refine EV.reg ?_; (conv => (arg 2; whnf)); (refine nx ?_; try with_reducible exact ⟨⟩))
   | (refine ConQ.call (litmus_Check_q _ _ (hs0.mono (PHeap.le_add _ _)) hb) ?_; try (refine nx ?_; try with_reducible exact ⟨⟩))
   | (refine EV.condX rfl (fun h => ?_) (fun h => ?_) <;> try exact dead h)
   | (refine EV.ret Q54_ok ?_; simp only [wpS, wpA, wpQL, push_cast, Int.cast_ofNat_Int, reduceIte, Nat.reduceEqDiff, reduceCtorEq, Nat.reduceAdd, Nat.reduceSub, Nat.reduceMul, Int.reduceToNat, Nat.reduceLeDiff, Q54])
   | ((first | with_reducible intro b | refine xrA rfl ?_ | fail); try (refine nx ?_; try with_reducible exact ⟨⟩))
   | (refine xw ?_; (refine nx ?_; try with_reducible exact ⟨⟩))
   | fail
 ·exact .inl h
 ·obtain ⟨_, _, hall⟩ := checkP_zero h
  have hsm := checkP_small h
  refine Con.callA (G1 := []) (litmus_rebuilt_c _ _ ts _ hs0 (by omega) (by omega) (exp_byC (List.all_eq_true.1 hall))) (List.Perm.refl _) ?_
  rintro v M' G' hM' ⟨s', rfl, hs'⟩
  obtain ⟨a', c', vs', rfl, hr'⟩ := hs'
  simp only [wpS, wpA, wpQL, push_cast, Int.cast_ofNat_Int, reduceIte, Nat.reduceEqDiff, reduceCtorEq, Nat.reduceAdd, Nat.reduceSub, Nat.reduceMul, Int.reduceToNat, Nat.reduceLeDiff]
  repeat' first
    | (refine EV.ret Q54_ok ?_; simp only [wpS, wpA, wpQL, push_cast, Int.cast_ofNat_Int, reduceIte, Nat.reduceEqDiff, reduceCtorEq, Nat.reduceAdd, Nat.reduceSub, Nat.reduceMul, Int.reduceToNat, Nat.reduceLeDiff, Q54])
    | (refine xrA rfl ?_; try (refine nx ?_; try with_reducible exact ⟨⟩))
    | (refine xw ?_; (refine nx ?_; try with_reducible exact ⟨⟩))
    | fail
  refine .inr ⟨h, _, rfl, ?_⟩
  have e : rebGo (fun o _ => expOp o) true = expT := funext fun l => rebGo_exp true l
  rw [← e]
  exact ⟨a', c', vs', rfl, hr'⟩
end
end Go.EV

namespace Go.EV
variable {P : Program}

/-- A contract of a call of yield: what a round of the loop l does. -/
def YCon (P : Program) (l : Nat) (args : Array Value) (M : PHeap) (G : Own) (Φ : Value → PHeap → Own → Prop) : Prop :=
 ∀ w, EV.St w (G.map (·.1)) M M G w → ∃ r : Loop, w.heap[l]? = some (.loop r) ∧ args.size = r.params.size ∧
  Rounds P l r.fn ((r.params.zip args).foldl (fun tmps (t, a) => tmps.setIfInBounds t a) r.tmps) r.assign r.body w fun v w' => ∃ M' G', EV.St w (G.map (·.1)) M M' G' w' ∧ Φ v M' G'

section
variable {C : Cx P} {l : Nat} {args : Array Value} {M : PHeap} {G G1 G2 : Own} {K : Value → PHeap → Own → Prop} {Φ : Value → PHeap → Own → Prop}

theorem YCon.callA (h : YCon P l args M G1 Φ) (hG : G.Perm (G1 ++ G2)) (hk : ∀ v M' G', M.le M' → Φ v M' G' → K v M' (G2 ++ G')) : YieldW C l args M G K := by
 intro w hs
 have hs' := hs.perm hG
 obtain ⟨r, h1, h2, h3⟩ := h w (hs'.part (PHeap.le_add _ _))
 refine ⟨r, h1, h2, h3.mono ?_⟩
 rintro v w' ⟨M', G', k1, k2⟩
 exact ⟨M', G2 ++ G', (hs'.callA k1).perm List.perm_append_comm, hk v M' G' k1.base k2⟩
end

/-- The round's activation. -/
def Cx.round (P : Program) (l : Nat) (f : FuncId) (nt : Nat) (w0 : World) (F : List Nat) (M0 : PHeap) (Φ : Value → PHeap → Own → Prop) : Cx P where
 b := { (default : Frame) with fn := f, kind := .normal, roundOf := some l }
 T := fun cs m => ∀ c cs', cs = c :: cs' → ∃ v w', (∃ M' G', EV.St w0 F M0 M' G' w' ∧ Φ v M' G') ∧ Steps P m (lone (c.finish v) cs' w')
 back := by
  intro cs m m' hs h c cs' e
  obtain ⟨v, w', h1, h2⟩ := h c cs' e
  exact ⟨v, w', h1, Steps.trans (.one hs) h2⟩
 nt := nt
 ds := []
 w0 := w0
 F := F
 M0 := M0

/-- The parameters of a round. -/
def parE : List Nat → List Value → Env → Env
 | t :: ps, v :: vs, ρ => parE ps vs ((t, v) :: ρ)
 | _, _, ρ => ρ

theorem fits_par {nt : Nat} : ∀ (ps : List Nat) (vs : List Value) (ρ : Env) (a : Act), (∀ t ∈ ps, t < nt) → Fits nt ρ a →
  Fits nt (parE ps vs ρ) { a with tmps := (ps.zip vs).foldl (fun tmps (t, v) => tmps.setIfInBounds t v) a.tmps }
 | [], _, ρ, a, _, h => h
 | _ :: _, [], ρ, a, _, h => h
 | t :: ps, v :: vs, ρ, a, hp, h => by
  have h1 := h.put t (hp t (List.mem_cons_self ..)) v
  have h2 := fits_par ps vs ((t, v) :: ρ) (a.put (some t) v) (fun q hq => hp q (List.mem_cons_of_mem _ hq)) h1
  simpa [parE, Act.put] using h2

/-- What is known of a loop's record: its code, resolved; its temporaries. -/
structure LoopIs (P : Program) (V : List Nat) (r : Loop) (f : FuncId) (nt : Nat) (ps : List Nat) (asn bd : RCode) (ρ : Env) : Prop where
 fn : r.fn = f
 par : r.params.toList = ps
 pb : ∀ t ∈ ps, t < nt
 fits : Fits nt ρ { tmps := r.tmps, defers := [] }
 asg : CmpC P nt V r.assign asn
 body : CmpC P nt V r.body bd

section
variable {l : Nat} {f : FuncId} {nt : Nat} {V : List Nat} {ps : List Nat} {asn bd : RCode} {ρ : Env} {r : Loop} {M : PHeap} {G : Own} {Φ : Value → PHeap → Own → Prop}

/-- A round is walked. -/
theorem YCon.enter {vs : List Value} (hl : (l, Obj.loop r) ∈ G) (hr : LoopIs P V r f nt ps asn bd ρ) (hv : vs.length = ps.length)
  (h : ∀ w0, EV (Cx.round P l f nt w0 (G.map (·.1)) M Φ) V [.code asn, .begins, .code bd] (parE ps vs ρ) M G) : YCon P l vs.toArray M G Φ := by
 intro w hs
 have hps := hr.par
 refine ⟨r, hs.own _ hl, ?_, ?_⟩
 ·rw [List.size_toArray, hv, ← hps, Array.length_toList]
 ·intro c cs
  have hf : Fits nt (parE ps vs ρ) { tmps := (ps.zip vs).foldl (fun tmps (t, v) => tmps.setIfInBounds t v) r.tmps, defers := [] } := fits_par ps vs ρ { tmps := r.tmps, defers := [] } hr.pb hr.fits
  have := h w [.code r.assign, .beginRound, .code r.body] (.cons (.code hr.asg) (.cons .begins (.cons (.code hr.body) .nil))) _ w hf rfl hs (c :: cs) c cs rfl
  obtain ⟨v, w', h1, h2⟩ := this
  refine ⟨v, w', h1, ?_⟩
  have e : (r.params.zip vs.toArray).foldl (fun tmps (t, a) => tmps.setIfInBounds t a) r.tmps = (ps.zip vs).foldl (fun tmps (t, v) => tmps.setIfInBounds t v) r.tmps := by
   rw [← hps, ← Array.foldl_toList, Array.toList_zip]
  rw [e, hr.fn]
  exact h2

theorem St.loopPut {w0 w : World} {F : List Nat} {M0 : PHeap} {G0 : Own} {r r' : Loop} (hs : EV.St w0 F M0 M ((l, Obj.loop r) :: G0) w) : EV.St w0 F M0 M ((l, Obj.loop r') :: G0) (w.putObj l (.loop r')) :=
 hs.put (i := 0) (o' := .loop r') rfl rfl ⟨rfl, Nat.le_refl _⟩ rfl (by simp) (fun k hk => World.putObj_heap_other hk) (World.putObj_heap_same (hs.lt (List.mem_cons_self ..)))

variable {w0 : World} {F : List Nat} {M0 : PHeap} {G0 : Own} {k : List RItem}

theorem EV.begins (hst : r.state = .ready) (h : EV (Cx.round P l f nt w0 F M0 Φ) V k ρ M ((l, Obj.loop { r with state := .busy }) :: G0)) : EV (Cx.round P l f nt w0 F M0 Φ) V (.begins :: k) ρ M ((l, Obj.loop r) :: G0) := by
 intro k' hk a w hf hd hs cs
 cases hk with
 | cons hx hk => cases hx with
  | begins =>
   have hl := hs.own (l, Obj.loop r) (List.mem_cons_self ..)
   exact (Cx.round P l f nt w0 F M0 Φ).back (stepR_beginRound rfl (run_beginRound hl hst)) (h _ hk a _ hf hd (St.loopPut hs) cs)

theorem EV.endRound (h : Φ (.bool true) M ((l, Obj.loop { r with state := .ready, pending := none }) :: G0)) : EV (Cx.round P l f nt w0 F M0 Φ) V [] ρ M ((l, Obj.loop r) :: G0) := by
 intro k' hk a w hf hd hs cs c cs' e
 subst e
 cases hk
 have hl := hs.own (l, Obj.loop r) (List.mem_cons_self ..)
 exact ⟨_, _, ⟨M, _, St.loopPut hs, h⟩, .one (stepR_round_end rfl rfl (run_endRound none hl))⟩

theorem EV.retRound (h : Φ (.bool false) M ((l, Obj.loop { r with state := .done, pending := some .ret }) :: G0)) : EV (Cx.round P l f nt w0 F M0 Φ) V (.code .ret :: k) ρ M ((l, Obj.loop r) :: G0) := by
 intro k' hk a w hf hd hs cs c cs' e
 subst e
 cases hk with
 | cons hx hk => cases hx with
  | code hc => cases hc with
   | ret =>
    have hl := hs.own (l, Obj.loop r) (List.mem_cons_self ..)
    exact ⟨_, _, ⟨M, _, St.loopPut hs, h⟩, .one (stepR_round_ret rfl rfl (run_endRound (some .ret) hl))⟩

end
end Go.EV
