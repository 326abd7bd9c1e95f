/- The program's functions, resolved. Memory orders: what the functions of the package order compute. Litmus programs: what the functions of the package litmus compute. litmus.Check. litmus.strongFence, litmus.Expand$1. Nothing of its own. -/
import Derived.Test.YtmgnpoleilcjoaaProg
import Derived.Test.YtmgnpoleilcjoaaVPab
set_option maxRecDepth 8000
set_option linter.unusedSimpArgs false
set_option linter.unusedVariables false
set_option linter.unusedSectionVars false
namespace Go.EV
open Go.Proofs

/- lockless/locklesslaw04.AxiomPlaces -/
def Q61_0 : Sts := .op (some 2) (.box 24 (.t 0)) <|
  .op (some 4) (.mv (.c (.bool false))) <|
  .nil
def Q61_1 : Sts := .op (some 17) (.call 8 []) <|
  .op (some 18) (.notb (.t 17)) <|
  .nil
def Q61_2 : Sts := .op (some 4) (.mv (.c (.bool false))) <|
  .nil
def Q61_3 : Sts := .op (some 20) (.loadA 1 (.t 2)) <|
  .op (some 21) (.call 9 [(.t 20)]) <|
  .op (some 19) (.mv (.t 21)) <|
  .op (some 22) (.extract 0 (.t 19)) <|
  .op (some 23) (.extract 1 (.t 19)) <|
  .op (some 5) (.mv (.t 22)) <|
  .op (some 6) (.mv (.t 23)) <|
  .nil
def Q61_4 : Sts := .op (some 24) (.mv (.t 6)) <|
  .op (some 25) (.bin .neq (.t 24) (.c (.int .i64 0))) <|
  .nil
def Q61_5 : Sts := .op (some 26) (.mv (.t 5)) <|
  .op (some 27) (.len (.t 26)) <|
  .op (some 28) (.bin .eql (.t 27) (.c (.int .i64 0))) <|
  .op (some 4) (.mv (.t 28)) <|
  .nil
def Q61_6 : Sts := .op (some 29) (.mv (.t 1)) <|
  .op (some 30) (.bin .and (.t 29) (.c (.int .i64 1))) <|
  .op (some 31) (.bin .add (.c (.int .i64 1)) (.t 30)) <|
  .op (some 7) (.mv (.t 31)) <|
  .nil
def Q61_7 : Sts := .op (some 32) (.loadA 1 (.t 2)) <|
  .op (some 33) (.call 10 [(.t 32)]) <|
  .op (some 8) (.alloc 24 [(.slice none 0 0)]) <|
  .op none (.store 1 (.t 8) (.t 33)) <|
  .nil
def Q61_8 : Sts := .op (some 9) (.mv (.c (.int .i64 0))) <|
  .nil
def Q61_9 : Sts := .op (some 34) (.mv (.t 9)) <|
  .op (some 35) (.faddr 0 (.t 8)) <|
  .op (some 36) (.loadS (.t 35)) <|
  .op (some 37) (.len (.t 36)) <|
  .op (some 38) (.bin .lss (.t 34) (.t 37)) <|
  .nil
def Q61_10 : Sts := .op (some 10) (.mv (.c (.int .i64 0))) <|
  .nil
def Q61_11 : Sts := .op (some 41) (.mv (.t 10)) <|
  .op (some 42) (.faddr 0 (.t 8)) <|
  .op (some 43) (.loadS (.t 42)) <|
  .op (some 44) (.mv (.t 9)) <|
  .op (some 45) (.iaddrS 1 (.t 43) (.t 44)) <|
  .op (some 46) (.loadS (.t 45)) <|
  .op (some 47) (.len (.t 46)) <|
  .op (some 48) (.bin .lss (.t 41) (.t 47)) <|
  .nil
def Q61_12 : Sts := .op (some 51) (.faddr 0 (.t 8)) <|
  .op (some 52) (.loadS (.t 51)) <|
  .op (some 53) (.mv (.t 9)) <|
  .op (some 54) (.iaddrS 1 (.t 52) (.t 53)) <|
  .op (some 55) (.loadS (.t 54)) <|
  .op (some 56) (.mv (.t 10)) <|
  .op (some 57) (.iaddrS 5 (.t 55) (.t 56)) <|
  .op (some 58) (.faddr 0 (.t 57)) <|
  .op (some 59) (.loadI .i64 (.t 58)) <|
  .op (some 60) (.bin .neq (.t 59) (.c (.int .i64 5))) <|
  .nil
def Q61_13 : AT := .q (.op 0 (some 61) (.faddr 0 (.t 8)) <|
  .op 1 (some 62) (.loadS (.t 61)) <|
  .op 2 (some 63) (.mv (.t 9)) <|
  .op 3 (some 64) (.iaddrS 1 (.t 62) (.t 63)) <|
  .op 4 (some 65) (.loadS (.t 64)) <|
  .op 5 (some 66) (.mv (.t 10)) <|
  .op 6 (some 67) (.faddr 0 (.t 8)) <|
  .op 7 (some 68) (.loadS (.t 67)) <|
  .op 8 (some 69) (.mv (.t 9)) <|
  .op 9 (some 70) (.iaddrS 1 (.t 68) (.t 69)) <|
  .op 10 (some 71) (.loadS (.t 70)) <|
  .op 11 (some 72) (.mv (.t 10)) <|
  .op 12 (some 73) (.iaddrS 5 (.t 71) (.t 72)) <|
  .op 13 (some 74) (.faddr 1 (.t 73)) <|
  .op 14 (some 75) (.loadI .i64 (.t 74)) <|
  .op 15 (some 76) (.mv (.t 7)) <|
  .op 16 (some 77) (.bin .add (.t 75) (.t 76)) <|
  .op 17 (some 78) (.bin .rem (.t 77) (.c (.int .i64 3))) <|
  .op 18 (some 79) (.iaddrS 5 (.t 65) (.t 66)) <|
  .op 19 (some 80) (.faddr 1 (.t 79)) <|
  .nil) <|
  .s 20 none (.store 1 (.t 80) (.t 78)) true (
  .q (.nil) <|
  .fin) <|
  .no
def Q61_14 : Sts := .op (some 49) (.mv (.t 10)) <|
  .op (some 50) (.bin .add (.t 49) (.c (.int .i64 1))) <|
  .op (some 10) (.mv (.t 50)) <|
  .nil
def Q61_L15 : RCode := (.seq (.seq (.reg Q61_11) (.cond (.t 48) .skip (.exit 2))) (.seq (.block 3 (.seq (.reg Q61_12) (.cond (.t 60) (.any Q61_13) .skip))) (.reg Q61_14)))
def Q61_15 : Sts := .op (some 39) (.mv (.t 9)) <|
  .op (some 40) (.bin .add (.t 39) (.c (.int .i64 1))) <|
  .op (some 9) (.mv (.t 40)) <|
  .nil
def Q61_L16 : RCode := (.seq (.seq (.reg Q61_9) (.cond (.t 38) .skip (.exit 0))) (.seq (.block 1 (.seq (.reg Q61_10) (.block 2 (.loop Q61_L15)))) (.reg Q61_15)))
def Q61_16 : Sts := .op (some 82) (.loadA 1 (.t 8)) <|
  .op (some 83) (.call 9 [(.t 82)]) <|
  .op (some 81) (.mv (.t 83)) <|
  .op (some 84) (.extract 0 (.t 81)) <|
  .op (some 85) (.extract 1 (.t 81)) <|
  .op (some 11) (.mv (.t 84)) <|
  .op (some 12) (.mv (.t 85)) <|
  .nil
def Q61_17 : Sts := .op (some 86) (.mv (.t 12)) <|
  .op (some 87) (.bin .neq (.t 86) (.c (.int .i64 0))) <|
  .op (some 88) (.mv (.t 87)) <|
  .cnd 88 false (
  .op (some 89) (.mv (.t 5)) <|
  .op (some 90) (.len (.t 89)) <|
  .op (some 91) (.mv (.t 11)) <|
  .op (some 92) (.len (.t 91)) <|
  .op (some 93) (.bin .neq (.t 90) (.t 92)) <|
  .nil) 94 (.t 93) <|
  .nil
def Q61_18 : Sts := .op (some 4) (.mv (.c (.bool false))) <|
  .nil
def Q61_19 : Sts := .op (some 13) (.mv (.c (.int .i64 0))) <|
  .nil
def Q61_20 : Sts := .op (some 95) (.mv (.t 13)) <|
  .op (some 96) (.mv (.t 5)) <|
  .op (some 97) (.len (.t 96)) <|
  .op (some 98) (.bin .lss (.t 95) (.t 97)) <|
  .nil
def Q61_21 : Sts := .op (some 101) (.mv (.t 5)) <|
  .op (some 102) (.mv (.t 13)) <|
  .op (some 103) (.iaddrS 1 (.t 101) (.t 102)) <|
  .op (some 104) (.loadS (.t 103)) <|
  .op (some 105) (.len (.t 104)) <|
  .op (some 106) (.bin .sub (.t 105) (.c (.int .i64 3))) <|
  .op (some 14) (.mv (.t 106)) <|
  .nil
def Q61_22 : Sts := .op (some 107) (.mv (.t 5)) <|
  .op (some 108) (.mv (.t 13)) <|
  .op (some 109) (.iaddrS 1 (.t 107) (.t 108)) <|
  .op (some 110) (.loadS (.t 109)) <|
  .op (some 111) (.call 11 [(.t 110)]) <|
  .op (some 15) (.mv (.t 111)) <|
  .nil
def Q61_23 : Sts := .op (some 16) (.mv (.c (.int .i64 0))) <|
  .nil
def Q61_24 : Sts := .op (some 112) (.mv (.t 16)) <|
  .op (some 113) (.bin .lss (.t 112) (.c (.int .i64 3))) <|
  .nil
def Q61_25 : Sts := .op (some 116) (.mv (.t 15)) <|
  .op (some 117) (.mv (.t 14)) <|
  .op (some 118) (.mv (.t 16)) <|
  .op (some 119) (.mv (.t 7)) <|
  .op (some 120) (.bin .add (.t 118) (.t 119)) <|
  .op (some 121) (.bin .rem (.t 120) (.c (.int .i64 3))) <|
  .op (some 122) (.bin .add (.t 117) (.t 121)) <|
  .op (some 123) (.mv (.t 5)) <|
  .op (some 124) (.mv (.t 13)) <|
  .op (some 125) (.iaddrS 1 (.t 123) (.t 124)) <|
  .op (some 126) (.loadS (.t 125)) <|
  .op (some 127) (.mv (.t 14)) <|
  .op (some 128) (.mv (.t 16)) <|
  .op (some 129) (.bin .add (.t 127) (.t 128)) <|
  .op (some 130) (.iaddrS 1 (.t 126) (.t 129)) <|
  .op (some 131) (.loadI .i64 (.t 130)) <|
  .op (some 132) (.iaddrS 1 (.t 116) (.t 122)) <|
  .op none (.store 1 (.t 132) (.t 131)) <|
  .nil
def Q61_26 : Sts := .op (some 114) (.mv (.t 16)) <|
  .op (some 115) (.bin .add (.t 114) (.c (.int .i64 1))) <|
  .op (some 16) (.mv (.t 115)) <|
  .nil
def Q61_L27 : RCode := (.seq (.seq (.reg Q61_24) (.cond (.t 113) .skip (.exit 6))) (.seq (.block 7 (.reg Q61_25)) (.reg Q61_26)))
def Q61_27 : Sts := .op (some 133) (.mv (.t 11)) <|
  .op (some 134) (.mv (.t 15)) <|
  .op (some 135) (.call 12 [(.t 133), (.t 134)]) <|
  .op (some 136) (.notb (.t 135)) <|
  .nil
def Q61_28 : Sts := .op (some 4) (.mv (.c (.bool false))) <|
  .nil
def Q61_29 : Sts := .op (some 99) (.mv (.t 13)) <|
  .op (some 100) (.bin .add (.t 99) (.c (.int .i64 1))) <|
  .op (some 13) (.mv (.t 100)) <|
  .nil
def Q61_L30 : RCode := (.seq (.seq (.reg Q61_20) (.cond (.t 98) .skip (.exit 4))) (.seq (.block 5 (.seq (.reg Q61_21) (.seq (.reg Q61_22) (.seq (.seq (.reg Q61_23) (.block 6 (.loop Q61_L27))) (.seq (.reg Q61_27) (.cond (.t 136) (.seq (.reg Q61_28) .ret) .skip)))))) (.reg Q61_29)))
def Q61_30 : Sts := .op (some 4) (.mv (.c (.bool true))) <|
  .nil
def Q61 : RFun := ⟨137, [0, 1, 2, 4, 5, 6, 7, 8, 9, 10, 11, 12, 13, 14, 15, 16], (.seq (.reg Q61_0) (.seq (.seq (.reg Q61_1) (.cond (.t 18) (.seq (.reg Q61_2) .ret) .skip)) (.seq (.reg Q61_3) (.seq (.seq (.reg Q61_4) (.cond (.t 25) (.seq (.reg Q61_5) .ret) .skip)) (.seq (.reg Q61_6) (.seq (.reg Q61_7) (.seq (.seq (.reg Q61_8) (.block 0 (.loop Q61_L16))) (.seq (.reg Q61_16) (.seq (.seq (.reg Q61_17) (.cond (.t 94) (.seq (.reg Q61_18) .ret) .skip)) (.seq (.seq (.reg Q61_19) (.block 4 (.loop Q61_L30))) (.seq (.reg Q61_30) .ret))))))))))), [.tmp 4]⟩
theorem Q61_ok : compF Try.prog [0, 1, 2, 4, 5, 6, 7, 8, 9, 10, 11, 12, 13, 14, 15, 16] [16, 18, 23, 27, 30, 32, 36, 46, 49, 50, 43, 41, 66, 69, 71, 75, 78, 83, 99, 100, 101, 107, 108, 48, 58, 81, 82, 110, 111, 112] 3 = some Q61 := by kernel_rfl

/- lockless/locklesslaw04.AxiomAdds -/
def Q58_0 : Sts := .op (some 4) (.mv (.c (.bool false))) <|
  .nil
def Q58_1 : Sts := .op (some 15) (.call 8 []) <|
  .op (some 16) (.notb (.t 15)) <|
  .nil
def Q58_2 : Sts := .op (some 4) (.mv (.c (.bool false))) <|
  .nil
def Q58_3 : Sts := .op (some 17) (.mv (.t 0)) <|
  .op (some 18) (.conv .u64 (.t 17)) <|
  .op (some 19) (.bin .rem (.t 18) (.c (.int .u64 3))) <|
  .op (some 20) (.conv .i64 (.t 19)) <|
  .op (some 21) (.bin .add (.c (.int .i64 1)) (.t 20)) <|
  .op (some 5) (.mv (.t 21)) <|
  .nil
def Q58_4 : Sts := .op (some 6) (.alloc 24 [(.slice none 0 0)]) <|
  .nil
def Q58_5 : Sts := .op (some 7) (.mv (.c (.int .i64 0))) <|
  .nil
def Q58_6 : Sts := .op (some 22) (.mv (.t 7)) <|
  .op (some 23) (.mv (.t 5)) <|
  .op (some 24) (.bin .lss (.t 22) (.t 23)) <|
  .nil
def Q58_7 : Sts := .op (some 27) (.build [(.int .i64 0), (.int .i64 0), (.int .i64 0), (.int .i64 0), (.int .i64 0)] [(0, 1, (.c (.int .i64 2))), (2, 1, (.c (.int .i64 1)))]) <|
  .op (some 8) (.alloc 33 [(.int .i64 0), (.int .i64 0), (.int .i64 0), (.int .i64 0), (.int .i64 0)]) <|
  .op none (.store 5 (.t 8) (.t 27)) <|
  .nil
def Q58_8 : Sts := .op (some 28) (.mv (.t 7)) <|
  .op (some 29) (.mv (.t 1)) <|
  .op (some 30) (.len (.t 29)) <|
  .op (some 31) (.bin .lss (.t 28) (.t 30)) <|
  .nil
def Q58_9 : Sts := .op (some 32) (.mv (.t 1)) <|
  .op (some 33) (.mv (.t 7)) <|
  .op (some 34) (.iaddrS 1 (.t 32) (.t 33)) <|
  .op (some 35) (.loadI .i64 (.t 34)) <|
  .op (some 36) (.conv .u64 (.t 35)) <|
  .op (some 37) (.bin .rem (.t 36) (.c (.int .u64 5))) <|
  .op (some 38) (.conv .i64 (.t 37)) <|
  .op (some 39) (.faddr 4 (.t 8)) <|
  .op none (.store 1 (.t 39) (.t 38)) <|
  .nil
def Q58_10 : Sts := .op (some 40) (.faddr 0 (.t 6)) <|
  .op (some 41) (.loadS (.t 40)) <|
  .op (some 42) (.loadA 5 (.t 8)) <|
  .op (some 43) (.buildSl 33 1 [(.int .i64 0), (.int .i64 0), (.int .i64 0), (.int .i64 0), (.int .i64 0)] [(0, 5, (.t 42))]) <|
  .op (some 44) (.buildSl 31 1 [(.slice none 0 0)] [(0, 1, (.t 43))]) <|
  .op (some 45) (.append 31 1 24 [(.slice none 0 0)] (.t 41) (.t 44)) <|
  .op (some 46) (.faddr 0 (.t 6)) <|
  .op none (.store 1 (.t 46) (.t 45)) <|
  .nil
def Q58_11 : Sts := .op (some 25) (.mv (.t 7)) <|
  .op (some 26) (.bin .add (.t 25) (.c (.int .i64 1))) <|
  .op (some 7) (.mv (.t 26)) <|
  .nil
def Q58_L12 : RCode := (.seq (.seq (.reg Q58_6) (.cond (.t 24) .skip (.exit 0))) (.seq (.block 1 (.seq (.reg Q58_7) (.seq (.seq (.reg Q58_8) (.cond (.t 31) (.reg Q58_9) .skip)) (.reg Q58_10)))) (.reg Q58_11)))
def Q58_12 : Sts := .op (some 48) (.loadA 1 (.t 6)) <|
  .op (some 49) (.call 9 [(.t 48)]) <|
  .op (some 47) (.mv (.t 49)) <|
  .op (some 50) (.extract 0 (.t 47)) <|
  .op (some 51) (.extract 1 (.t 47)) <|
  .op (some 9) (.mv (.t 50)) <|
  .op (some 10) (.mv (.t 51)) <|
  .nil
def Q58_13 : Sts := .op (some 52) (.buildSl 3 4 [(.int .i64 0), (.int .i64 0), (.int .i64 0), (.int .i64 0)] [(0, 1, (.c (.int .i64 1))), (1, 1, (.c (.int .i64 1))), (2, 1, (.c (.int .i64 2))), (3, 1, (.c (.int .i64 6)))]) <|
  .op (some 53) (.mv (.t 5)) <|
  .op (some 54) (.iaddrS 1 (.t 52) (.t 53)) <|
  .op (some 55) (.loadI .i64 (.t 54)) <|
  .op (some 11) (.mv (.t 55)) <|
  .nil
def Q58_14 : Sts := .op (some 56) (.mv (.t 10)) <|
  .op (some 57) (.bin .neq (.t 56) (.c (.int .i64 0))) <|
  .op (some 58) (.mv (.t 57)) <|
  .cnd 58 false (
  .op (some 59) (.mv (.t 9)) <|
  .op (some 60) (.len (.t 59)) <|
  .op (some 61) (.mv (.t 11)) <|
  .op (some 62) (.bin .neq (.t 60) (.t 61)) <|
  .nil) 63 (.t 62) <|
  .nil
def Q58_15 : Sts := .op (some 4) (.mv (.c (.bool false))) <|
  .nil
def Q58_16 : Sts := .op (some 12) (.mv (.c (.int .i64 0))) <|
  .nil
def Q58_17 : Sts := .op (some 64) (.mv (.t 12)) <|
  .op (some 65) (.mv (.t 9)) <|
  .op (some 66) (.len (.t 65)) <|
  .op (some 67) (.bin .lss (.t 64) (.t 66)) <|
  .nil
def Q58_18 : Sts := .op (some 13) (.mv (.c (.int .i64 0))) <|
  .nil
def Q58_19 : Sts := .op (some 14) (.mv (.c (.int .i64 0))) <|
  .nil
def Q58_20 : Sts := .op (some 70) (.mv (.t 14)) <|
  .op (some 71) (.mv (.t 5)) <|
  .op (some 72) (.bin .lss (.t 70) (.t 71)) <|
  .nil
def Q58_21 : Sts := .op (some 75) (.mv (.t 13)) <|
  .op (some 76) (.mv (.t 9)) <|
  .op (some 77) (.mv (.t 12)) <|
  .op (some 78) (.iaddrS 1 (.t 76) (.t 77)) <|
  .op (some 79) (.loadS (.t 78)) <|
  .op (some 80) (.mv (.t 14)) <|
  .op (some 81) (.iaddrS 1 (.t 79) (.t 80)) <|
  .op (some 82) (.loadI .i64 (.t 81)) <|
  .op (some 83) (.bin .and (.t 82) (.c (.int .i64 7))) <|
  .op (some 84) (.conv .u64 (.t 83)) <|
  .op (some 85) (.bin .shl (.c (.int .i64 1)) (.t 84)) <|
  .op (some 86) (.bin .add (.t 75) (.t 85)) <|
  .op (some 13) (.mv (.t 86)) <|
  .nil
def Q58_22 : Sts := .op (some 73) (.mv (.t 14)) <|
  .op (some 74) (.bin .add (.t 73) (.c (.int .i64 1))) <|
  .op (some 14) (.mv (.t 74)) <|
  .nil
def Q58_L23 : RCode := (.seq (.seq (.reg Q58_20) (.cond (.t 72) .skip (.exit 4))) (.seq (.block 5 (.reg Q58_21)) (.reg Q58_22)))
def Q58_23 : Sts := .op (some 87) (.mv (.t 13)) <|
  .op (some 88) (.mv (.t 5)) <|
  .op (some 89) (.conv .u64 (.t 88)) <|
  .op (some 90) (.bin .shl (.c (.int .i64 1)) (.t 89)) <|
  .op (some 91) (.bin .sub (.t 90) (.c (.int .i64 1))) <|
  .op (some 92) (.bin .neq (.t 87) (.t 91)) <|
  .op (some 93) (.mv (.t 92)) <|
  .cnd 93 false (
  .op (some 94) (.mv (.t 9)) <|
  .op (some 95) (.mv (.t 12)) <|
  .op (some 96) (.iaddrS 1 (.t 94) (.t 95)) <|
  .op (some 97) (.loadS (.t 96)) <|
  .op (some 98) (.mv (.t 5)) <|
  .op (some 99) (.iaddrS 1 (.t 97) (.t 98)) <|
  .op (some 100) (.loadI .i64 (.t 99)) <|
  .op (some 101) (.mv (.t 5)) <|
  .op (some 102) (.bin .neq (.t 100) (.t 101)) <|
  .nil) 103 (.t 102) <|
  .nil
def Q58_24 : Sts := .op (some 4) (.mv (.c (.bool false))) <|
  .nil
def Q58_25 : Sts := .op (some 68) (.mv (.t 12)) <|
  .op (some 69) (.bin .add (.t 68) (.c (.int .i64 1))) <|
  .op (some 12) (.mv (.t 69)) <|
  .nil
def Q58_L26 : RCode := (.seq (.seq (.reg Q58_17) (.cond (.t 67) .skip (.exit 2))) (.seq (.block 3 (.seq (.reg Q58_18) (.seq (.seq (.reg Q58_19) (.block 4 (.loop Q58_L23))) (.seq (.reg Q58_23) (.cond (.t 103) (.seq (.reg Q58_24) .ret) .skip))))) (.reg Q58_25)))
def Q58_26 : Sts := .op (some 4) (.mv (.c (.bool true))) <|
  .nil
def Q58 : RFun := ⟨104, [0, 1, 4, 5, 6, 7, 8, 9, 10, 11, 12, 13, 14], (.seq (.reg Q58_0) (.seq (.seq (.reg Q58_1) (.cond (.t 16) (.seq (.reg Q58_2) .ret) .skip)) (.seq (.reg Q58_3) (.seq (.reg Q58_4) (.seq (.seq (.reg Q58_5) (.block 0 (.loop Q58_L12))) (.seq (.reg Q58_12) (.seq (.reg Q58_13) (.seq (.seq (.reg Q58_14) (.cond (.t 63) (.seq (.reg Q58_15) .ret) .skip)) (.seq (.seq (.reg Q58_16) (.block 2 (.loop Q58_L26))) (.seq (.reg Q58_26) .ret)))))))))), [.tmp 4]⟩
theorem Q58_ok : compF Try.prog [0, 1, 4, 5, 6, 7, 8, 9, 10, 11, 12, 13, 14] [16, 18, 23, 27, 30, 32, 36, 46, 49, 50, 43, 41, 66, 69, 71, 75, 78, 83, 99, 100, 101, 107, 108, 48, 58, 81, 82, 110, 111, 112] 4 = some Q58 := by kernel_rfl

/- lockless/locklesslaw04.AxiomTurned -/
def Q62_0 : Sts := .op (some 1) (.box 24 (.t 0)) <|
  .op (some 2) (.mv (.c (.bool false))) <|
  .nil
def Q62_1 : Sts := .op (some 14) (.call 8 []) <|
  .op (some 15) (.notb (.t 14)) <|
  .nil
def Q62_2 : Sts := .op (some 2) (.mv (.c (.bool false))) <|
  .nil
def Q62_3 : Sts := .op (some 3) (.alloc 24 [(.slice none 0 0)]) <|
  .nil
def Q62_4 : Sts := .op (some 16) (.faddr 0 (.t 1)) <|
  .op (some 17) (.loadS (.t 16)) <|
  .op (some 18) (.len (.t 17)) <|
  .op (some 19) (.bin .sub (.t 18) (.c (.int .i64 1))) <|
  .op (some 4) (.mv (.t 19)) <|
  .nil
def Q62_5 : Sts := .op (some 20) (.mv (.t 4)) <|
  .op (some 21) (.bin .geq (.t 20) (.c (.int .i64 0))) <|
  .op (some 22) (.mv (.t 21)) <|
  .cnd 22 true (
  .op (some 23) (.faddr 0 (.t 1)) <|
  .op (some 24) (.loadS (.t 23)) <|
  .op (some 25) (.len (.t 24)) <|
  .op (some 26) (.bin .lss (.t 25) (.c (.int .i64 4))) <|
  .nil) 27 (.t 26) <|
  .nil
def Q62_6 : AT := .q (.op 0 (some 30) (.faddr 0 (.t 3)) <|
  .op 1 (some 31) (.loadS (.t 30)) <|
  .op 2 (some 32) (.faddr 0 (.t 1)) <|
  .op 3 (some 33) (.loadS (.t 32)) <|
  .op 4 (some 34) (.mv (.t 4)) <|
  .op 5 (some 35) (.iaddrS 1 (.t 33) (.t 34)) <|
  .op 6 (some 36) (.loadS (.t 35)) <|
  .nil) <|
  .s 7 (some 37) (.buildSl 31 1 [(.slice none 0 0)] [(0, 1, (.t 36))]) false (
  .q (.nil) <|
  .s 8 (some 38) (.append 31 1 24 [(.slice none 0 0)] (.t 31) (.t 37)) true (
  .q (.op 9 (some 39) (.faddr 0 (.t 3)) <|
  .nil) <|
  .s 10 none (.store 1 (.t 39) (.t 38)) true (
  .q (.nil) <|
  .fin) <|
  .no) <|
  .no) <|
  .no
def Q62_7 : Sts := .op (some 28) (.mv (.t 4)) <|
  .op (some 29) (.bin .sub (.t 28) (.c (.int .i64 1))) <|
  .op (some 4) (.mv (.t 29)) <|
  .nil
def Q62_L8 : RCode := (.seq (.seq (.reg Q62_5) (.cond (.t 27) .skip (.exit 0))) (.seq (.block 1 (.any Q62_6)) (.reg Q62_7)))
def Q62_8 : Sts := .op (some 41) (.loadA 1 (.t 1)) <|
  .op (some 42) (.call 9 [(.t 41)]) <|
  .op (some 40) (.mv (.t 42)) <|
  .op (some 43) (.extract 0 (.t 40)) <|
  .op (some 44) (.extract 1 (.t 40)) <|
  .op (some 5) (.mv (.t 43)) <|
  .op (some 6) (.mv (.t 44)) <|
  .nil
def Q62_9 : Sts := .op (some 46) (.loadA 1 (.t 3)) <|
  .op (some 47) (.call 9 [(.t 46)]) <|
  .op (some 45) (.mv (.t 47)) <|
  .op (some 48) (.extract 0 (.t 45)) <|
  .op (some 49) (.extract 1 (.t 45)) <|
  .op (some 7) (.mv (.t 48)) <|
  .op (some 8) (.mv (.t 49)) <|
  .nil
def Q62_10 : Sts := .op (some 51) (.loadA 1 (.t 1)) <|
  .op (some 52) (.call 13 [(.t 51)]) <|
  .op (some 50) (.mv (.t 52)) <|
  .op (some 53) (.extract 0 (.t 50)) <|
  .op (some 54) (.extract 1 (.t 50)) <|
  .op (some 9) (.mv (.t 53)) <|
  .op (some 10) (.mv (.t 54)) <|
  .nil
def Q62_11 : Sts := .op (some 56) (.loadA 1 (.t 3)) <|
  .op (some 57) (.call 13 [(.t 56)]) <|
  .op (some 55) (.mv (.t 57)) <|
  .op (some 58) (.extract 0 (.t 55)) <|
  .op (some 59) (.extract 1 (.t 55)) <|
  .op (some 11) (.mv (.t 58)) <|
  .op (some 12) (.mv (.t 59)) <|
  .nil
def Q62_12 : Sts := .op (some 60) (.mv (.t 6)) <|
  .op (some 61) (.bin .neq (.t 60) (.c (.int .i64 0))) <|
  .nil
def Q62_13 : Sts := .op (some 62) (.mv (.t 8)) <|
  .op (some 63) (.bin .neq (.t 62) (.c (.int .i64 0))) <|
  .op (some 2) (.mv (.t 63)) <|
  .nil
def Q62_14 : Sts := .op (some 64) (.mv (.t 8)) <|
  .op (some 65) (.bin .neq (.t 64) (.c (.int .i64 0))) <|
  .op (some 66) (.mv (.t 65)) <|
  .cnd 66 false (
  .op (some 67) (.mv (.t 10)) <|
  .op (some 68) (.bin .neq (.t 67) (.c (.int .i64 0))) <|
  .nil) 69 (.t 68) <|
  .op (some 70) (.mv (.t 69)) <|
  .cnd 70 false (
  .op (some 71) (.mv (.t 12)) <|
  .op (some 72) (.bin .neq (.t 71) (.c (.int .i64 0))) <|
  .nil) 73 (.t 72) <|
  .op (some 74) (.mv (.t 73)) <|
  .cnd 74 false (
  .op (some 75) (.mv (.t 9)) <|
  .op (some 76) (.mv (.t 11)) <|
  .op (some 77) (.bin .neq (.t 75) (.t 76)) <|
  .nil) 78 (.t 77) <|
  .op (some 79) (.mv (.t 78)) <|
  .cnd 79 false (
  .op (some 80) (.mv (.t 5)) <|
  .op (some 81) (.len (.t 80)) <|
  .op (some 82) (.mv (.t 7)) <|
  .op (some 83) (.len (.t 82)) <|
  .op (some 84) (.bin .neq (.t 81) (.t 83)) <|
  .nil) 85 (.t 84) <|
  .nil
def Q62_15 : Sts := .op (some 2) (.mv (.c (.bool false))) <|
  .nil
def Q62_16 : Sts := .op (some 13) (.mv (.c (.int .i64 0))) <|
  .nil
def Q62_17 : Sts := .op (some 86) (.mv (.t 13)) <|
  .op (some 87) (.mv (.t 5)) <|
  .op (some 88) (.len (.t 87)) <|
  .op (some 89) (.bin .lss (.t 86) (.t 88)) <|
  .nil
def Q62_18 : AT := .q (.op 0 (some 92) (.mv (.t 7)) <|
  .op 1 (some 93) (.loadA 1 (.t 1)) <|
  .op 2 (some 94) (.mv (.t 5)) <|
  .op 3 (some 95) (.mv (.t 13)) <|
  .op 4 (some 96) (.iaddrS 1 (.t 94) (.t 95)) <|
  .op 5 (some 97) (.loadS (.t 96)) <|
  .nil) <|
  .s 6 (some 98) (.call 14 [(.t 93), (.t 97)]) false (
  .q (.nil) <|
  .s 7 (some 99) (.call 12 [(.t 92), (.t 98)]) true (
  .q (.op 8 (some 100) (.notb (.t 99)) <|
  .nil) <|
  .fin) <|
  .no) <|
  .no
def Q62_19 : Sts := .op (some 2) (.mv (.c (.bool false))) <|
  .nil
def Q62_20 : Sts := .op (some 90) (.mv (.t 13)) <|
  .op (some 91) (.bin .add (.t 90) (.c (.int .i64 1))) <|
  .op (some 13) (.mv (.t 91)) <|
  .nil
def Q62_L21 : RCode := (.seq (.seq (.reg Q62_17) (.cond (.t 89) .skip (.exit 2))) (.seq (.block 3 (.seq (.any Q62_18) (.cond (.t 100) (.seq (.reg Q62_19) .ret) .skip))) (.reg Q62_20)))
def Q62_21 : Sts := .op (some 2) (.mv (.c (.bool true))) <|
  .nil
def Q62 : RFun := ⟨101, [0, 1, 2, 3, 4, 5, 6, 7, 8, 9, 10, 11, 12, 13], (.seq (.reg Q62_0) (.seq (.seq (.reg Q62_1) (.cond (.t 15) (.seq (.reg Q62_2) .ret) .skip)) (.seq (.reg Q62_3) (.seq (.seq (.reg Q62_4) (.block 0 (.loop Q62_L8))) (.seq (.reg Q62_8) (.seq (.reg Q62_9) (.seq (.reg Q62_10) (.seq (.reg Q62_11) (.seq (.seq (.reg Q62_12) (.cond (.t 61) (.seq (.reg Q62_13) .ret) .skip)) (.seq (.seq (.reg Q62_14) (.cond (.t 85) (.seq (.reg Q62_15) .ret) .skip)) (.seq (.seq (.reg Q62_16) (.block 2 (.loop Q62_L21))) (.seq (.reg Q62_21) .ret)))))))))))), [.tmp 2]⟩
theorem Q62_ok : compF Try.prog [0, 1, 2, 3, 4, 5, 6, 7, 8, 9, 10, 11, 12, 13] [16, 18, 23, 27, 30, 32, 36, 46, 49, 50, 43, 41, 66, 69, 71, 75, 78, 83, 99, 100, 101, 107, 108, 48, 58, 81, 82, 110, 111, 112] 5 = some Q62 := by kernel_rfl

/- lockless/locklesslaw04.AxiomInterleavings -/
def Q60_0 : Sts := .op (some 1) (.box 24 (.t 0)) <|
  .op (some 2) (.mv (.c (.bool false))) <|
  .nil
def Q60_1 : Sts := .op (some 8) (.call 8 []) <|
  .op (some 9) (.notb (.t 8)) <|
  .nil
def Q60_2 : Sts := .op (some 2) (.mv (.c (.bool false))) <|
  .nil
def Q60_3 : Sts := .op (some 11) (.loadA 1 (.t 1)) <|
  .op (some 12) (.call 15 [(.t 11)]) <|
  .op (some 10) (.mv (.t 12)) <|
  .op (some 13) (.extract 0 (.t 10)) <|
  .op (some 14) (.extract 1 (.t 10)) <|
  .op (some 3) (.mv (.t 13)) <|
  .op (some 4) (.mv (.t 14)) <|
  .nil
def Q60_4 : Sts := .op (some 16) (.loadA 1 (.t 1)) <|
  .op (some 17) (.call 9 [(.t 16)]) <|
  .op (some 15) (.mv (.t 17)) <|
  .op (some 18) (.extract 0 (.t 15)) <|
  .op (some 19) (.extract 1 (.t 15)) <|
  .op (some 5) (.mv (.t 18)) <|
  .op (some 6) (.mv (.t 19)) <|
  .nil
def Q60_5 : Sts := .op (some 20) (.mv (.t 4)) <|
  .op (some 21) (.bin .neq (.t 20) (.c (.int .i64 0))) <|
  .nil
def Q60_6 : Sts := .op (some 22) (.mv (.t 6)) <|
  .op (some 23) (.mv (.t 4)) <|
  .op (some 24) (.bin .eql (.t 22) (.t 23)) <|
  .op (some 2) (.mv (.t 24)) <|
  .nil
def Q60_7 : Sts := .op (some 7) (.mv (.c (.int .i64 0))) <|
  .nil
def Q60_8 : Sts := .op (some 25) (.mv (.t 7)) <|
  .op (some 26) (.mv (.t 3)) <|
  .op (some 27) (.len (.t 26)) <|
  .op (some 28) (.bin .lss (.t 25) (.t 27)) <|
  .nil
def Q60_9 : Sts := .op (some 31) (.mv (.t 5)) <|
  .op (some 32) (.mv (.t 3)) <|
  .op (some 33) (.mv (.t 7)) <|
  .op (some 34) (.iaddrS 1 (.t 32) (.t 33)) <|
  .op (some 35) (.loadS (.t 34)) <|
  .op (some 36) (.call 12 [(.t 31), (.t 35)]) <|
  .op (some 37) (.notb (.t 36)) <|
  .nil
def Q60_10 : Sts := .op (some 2) (.mv (.c (.bool false))) <|
  .nil
def Q60_11 : Sts := .op (some 29) (.mv (.t 7)) <|
  .op (some 30) (.bin .add (.t 29) (.c (.int .i64 1))) <|
  .op (some 7) (.mv (.t 30)) <|
  .nil
def Q60_L12 : RCode := (.seq (.seq (.reg Q60_8) (.cond (.t 28) .skip (.exit 0))) (.seq (.block 1 (.seq (.reg Q60_9) (.cond (.t 37) (.seq (.reg Q60_10) .ret) .skip))) (.reg Q60_11)))
def Q60_12 : Sts := .op (some 38) (.mv (.t 6)) <|
  .op (some 39) (.bin .eql (.t 38) (.c (.int .i64 0))) <|
  .op (some 40) (.mv (.t 39)) <|
  .cnd 40 true (
  .op (some 41) (.mv (.t 3)) <|
  .op (some 42) (.len (.t 41)) <|
  .op (some 43) (.bin .gtr (.t 42) (.c (.int .i64 0))) <|
  .nil) 44 (.t 43) <|
  .op (some 2) (.mv (.t 44)) <|
  .nil
def Q60 : RFun := ⟨45, [0, 1, 2, 3, 4, 5, 6, 7], (.seq (.reg Q60_0) (.seq (.seq (.reg Q60_1) (.cond (.t 9) (.seq (.reg Q60_2) .ret) .skip)) (.seq (.reg Q60_3) (.seq (.reg Q60_4) (.seq (.seq (.reg Q60_5) (.cond (.t 21) (.seq (.reg Q60_6) .ret) .skip)) (.seq (.seq (.reg Q60_7) (.block 0 (.loop Q60_L12))) (.seq (.reg Q60_12) .ret))))))), [.tmp 2]⟩
theorem Q60_ok : compF Try.prog [0, 1, 2, 3, 4, 5, 6, 7] [16, 18, 23, 27, 30, 32, 36, 46, 49, 50, 43, 41, 66, 69, 71, 75, 78, 83, 99, 100, 101, 107, 108, 48, 58, 81, 82, 110, 111, 112] 6 = some Q60 := by kernel_rfl

/- lockless/locklesslaw04.AxiomAlone -/
def Q59_0 : Sts := .op (some 2) (.mv (.c (.bool false))) <|
  .nil
def Q59_1 : Sts := .op (some 8) (.call 8 []) <|
  .op (some 9) (.notb (.t 8)) <|
  .nil
def Q59_2 : Sts := .op (some 2) (.mv (.c (.bool false))) <|
  .nil
def Q59_3 : Sts := .op (some 10) (.mv (.t 0)) <|
  .op (some 11) (.buildSl 31 1 [(.slice none 0 0)] [(0, 1, (.t 10))]) <|
  .op (some 12) (.build [(.slice none 0 0)] [(0, 1, (.t 11))]) <|
  .op (some 3) (.alloc 24 [(.slice none 0 0)]) <|
  .op none (.store 1 (.t 3) (.t 12)) <|
  .nil
def Q59_4 : Sts := .op (some 14) (.loadA 1 (.t 3)) <|
  .op (some 15) (.call 9 [(.t 14)]) <|
  .op (some 13) (.mv (.t 15)) <|
  .op (some 16) (.extract 0 (.t 13)) <|
  .op (some 17) (.extract 1 (.t 13)) <|
  .op (some 4) (.mv (.t 16)) <|
  .op (some 5) (.mv (.t 17)) <|
  .nil
def Q59_5 : Sts := .op (some 19) (.loadA 1 (.t 3)) <|
  .op (some 20) (.call 15 [(.t 19)]) <|
  .op (some 18) (.mv (.t 20)) <|
  .op (some 21) (.extract 0 (.t 18)) <|
  .op (some 22) (.extract 1 (.t 18)) <|
  .op (some 6) (.mv (.t 21)) <|
  .op (some 7) (.mv (.t 22)) <|
  .nil
def Q59_6 : Sts := .op (some 23) (.mv (.t 5)) <|
  .op (some 24) (.mv (.t 7)) <|
  .op (some 25) (.bin .eql (.t 23) (.t 24)) <|
  .op (some 26) (.mv (.t 25)) <|
  .cnd 26 true (
  .op (some 27) (.mv (.t 4)) <|
  .op (some 28) (.mv (.t 6)) <|
  .op (some 29) (.call 16 [(.t 27), (.t 28)]) <|
  .nil) 30 (.t 29) <|
  .op (some 2) (.mv (.t 30)) <|
  .nil
def Q59 : RFun := ⟨31, [0, 2, 3, 4, 5, 6, 7], (.seq (.reg Q59_0) (.seq (.seq (.reg Q59_1) (.cond (.t 9) (.seq (.reg Q59_2) .ret) .skip)) (.seq (.reg Q59_3) (.seq (.reg Q59_4) (.seq (.reg Q59_5) (.seq (.reg Q59_6) .ret)))))), [.tmp 2]⟩
theorem Q59_ok : compF Try.prog [0, 2, 3, 4, 5, 6, 7] [16, 18, 23, 27, 30, 32, 36, 46, 49, 50, 43, 41, 66, 69, 71, 75, 78, 83, 99, 100, 101, 107, 108, 48, 58, 81, 82, 110, 111, 112] 7 = some Q59 := by kernel_rfl

/- lockless/locklesslaw04.awake -/
def Q63_0 : Sts := .op (some 0) (.mv (.c (.bool false))) <|
  .nil
def Q63_1 : Sts := .op (some 4) (.call 17 []) <|
  .op (some 5) (.call 9 [(.t 4)]) <|
  .op (some 3) (.mv (.t 5)) <|
  .op (some 6) (.extract 0 (.t 3)) <|
  .op (some 7) (.extract 1 (.t 3)) <|
  .op (some 1) (.mv (.t 6)) <|
  .op (some 2) (.mv (.t 7)) <|
  .nil
def Q63_2 : Sts := .op (some 8) (.mv (.t 1)) <|
  .op (some 9) (.len (.t 8)) <|
  .op (some 10) (.bin .eql (.t 9) (.c (.int .i64 4))) <|
  .op (some 11) (.mv (.t 10)) <|
  .cnd 11 true (
  .op (some 12) (.mv (.t 1)) <|
  .op (some 13) (.iaddrS 1 (.t 12) (.c (.int .i64 0))) <|
  .op (some 14) (.loadS (.t 13)) <|
  .op (some 15) (.buildSl 3 5 [(.int .i64 0), (.int .i64 0), (.int .i64 0), (.int .i64 0), (.int .i64 0)] [(0, 1, (.c (.int .i64 0))), (1, 1, (.c (.int .i64 0))), (2, 1, (.c (.int .i64 1))), (3, 1, (.c (.int .i64 1))), (4, 1, (.c (.int .i64 0)))]) <|
  .op (some 16) (.call 18 [(.t 14), (.t 15)]) <|
  .nil) 17 (.t 16) <|
  .op (some 18) (.mv (.t 17)) <|
  .cnd 18 true (
  .op (some 19) (.mv (.t 2)) <|
  .op (some 20) (.bin .eql (.t 19) (.c (.int .i64 0))) <|
  .nil) 21 (.t 20) <|
  .op (some 0) (.mv (.t 21)) <|
  .nil
def Q63 : RFun := ⟨22, [0, 1, 2], (.seq (.reg Q63_0) (.seq (.reg Q63_1) (.seq (.reg Q63_2) .ret))), [.tmp 0]⟩
theorem Q63_ok : compF Try.prog [0, 1, 2] [16, 18, 23, 27, 30, 32, 36, 46, 49, 50, 43, 41, 66, 69, 71, 75, 78, 83, 99, 100, 101, 107, 108, 48, 58, 81, 82, 110, 111, 112] 8 = some Q63 := by kernel_rfl

/- lockless/axiom.Outcomes -/
def Q2_0 : Sts := .op (some 1) (.box 24 (.t 0)) <|
  .op (some 2) (.mv (.c (.slice none 0 0))) <|
  .op (some 3) (.mv (.c (.int .i64 0))) <|
  .nil
def Q2_1 : Sts := .op (some 9) (.loadA 1 (.t 1)) <|
  .op (some 10) (.call 19 [(.t 9)]) <|
  .op (some 8) (.mv (.t 10)) <|
  .op (some 11) (.extract 0 (.t 8)) <|
  .op (some 12) (.extract 1 (.t 8)) <|
  .op (some 4) (.alloc 49 [(.slice none 0 0)]) <|
  .op none (.store 1 (.t 4) (.t 11)) <|
  .op (some 5) (.mv (.t 12)) <|
  .nil
def Q2_2 : Sts := .op (some 13) (.mv (.t 5)) <|
  .op (some 14) (.bin .neq (.t 13) (.c (.int .i64 0))) <|
  .nil
def Q2_3 : Sts := .op (some 15) (.mv (.t 5)) <|
  .op (some 2) (.mv (.c (.slice none 0 0))) <|
  .op (some 3) (.mv (.t 15)) <|
  .nil
def Q2_4 : Sts := .op (some 6) (.alloc 26 [(.slice none 0 0)]) <|
  .nil
def Q2_5 : Sts := .op (some 16) (.loadS (.t 4)) <|
  .op (some 17) (.call 20 [(.t 16)]) <|
  .nil
def Q2_6 : Sts := .op (some 7) (.alloc 57 [(.slice none 0 0), (.slice none 0 0), (.slice none 0 0), (.slice none 0 0)]) <|
  .op none (.store 4 (.t 7) (.t 18)) <|
  .nil
def Q2_7 : AT := .q (.op 0 (some 19) (.loadS (.t 6)) <|
  .op 1 (some 20) (.loadS (.t 4)) <|
  .op 2 (some 21) (.loadA 4 (.t 7)) <|
  .nil) <|
  .s 3 (some 22) (.call 21 [(.t 20), (.t 21)]) false (
  .q (.nil) <|
  .s 4 (some 23) (.buildSl 34 1 [(.slice none 0 0)] [(0, 1, (.t 22))]) false (
  .q (.nil) <|
  .s 5 (some 24) (.append 34 1 24 [(.slice none 0 0)] (.t 19) (.t 23)) true (
  .q (.nil) <|
  .s 6 none (.store 1 (.t 6) (.t 24)) true (
  .q (.nil) <|
  .fin) <|
  .no) <|
  .no) <|
  .no) <|
  .no
def Q2_8 : Sts := .op (some 25) (.loadS (.t 6)) <|
  .op (some 26) (.len (.t 25)) <|
  .op (some 27) (.bin .gtr (.t 26) (.c (.int .i64 4096))) <|
  .nil
def Q2_9 : Sts := .op (some 28) (.loadS (.t 6)) <|
  .op (some 29) (.call 22 [(.t 28)]) <|
  .op none (.store 1 (.t 6) (.t 29)) <|
  .nil
def R_axiom_Outcomes_A10 : RCode := (.reg Q2_6)
def R_axiom_Outcomes_B10 : RCode := (.block 1 (.seq (.any Q2_7) (.seq (.reg Q2_8) (.cond (.t 27) (.reg Q2_9) .skip))))
def Q2_11 : Sts := .op (some 30) (.loadS (.t 6)) <|
  .op (some 31) (.call 22 [(.t 30)]) <|
  .op (some 2) (.mv (.t 31)) <|
  .op (some 3) (.mv (.c (.int .i64 0))) <|
  .nil
def Q2 : RFun := ⟨32, [0, 1, 2, 3, 4, 5, 6, 7, 17, 18], (.seq (.reg Q2_0) (.seq (.reg Q2_1) (.seq (.seq (.reg Q2_2) (.cond (.t 14) (.seq (.reg Q2_3) .ret) .skip)) (.seq (.reg Q2_4) (.seq (.seq (.reg Q2_5) (.block 0 (.rangeF (.t 17) [18] R_axiom_Outcomes_A10 R_axiom_Outcomes_B10))) (.seq (.reg Q2_11) .ret)))))), [.tmp 2, .tmp 3]⟩
theorem Q2_ok : compF Try.prog [0, 1, 2, 3, 4, 5, 6, 7, 17, 18] [16, 18, 23, 27, 30, 32, 36, 46, 49, 50, 43, 41, 66, 69, 71, 75, 78, 83, 99, 100, 101, 107, 108, 48, 58, 81, 82, 110, 111, 112] 9 = some Q2 := by kernel_rfl

/- lockless/locklessref03.Own -/
def Q71_0 : Sts := .op (some 1) (.box 24 (.t 0)) <|
  .op (some 2) (.alloc 24 [(.slice none 0 0)]) <|
  .nil
def Q71_1 : Sts := .op (some 3) (.alloc 24 [(.slice none 0 0)]) <|
  .nil
def Q71_2 : Sts := .op (some 4) (.mv (.c (.int .i64 0))) <|
  .nil
def Q71_3 : Sts := .op (some 5) (.mv (.t 4)) <|
  .op (some 6) (.faddr 0 (.t 1)) <|
  .op (some 7) (.loadS (.t 6)) <|
  .op (some 8) (.len (.t 7)) <|
  .op (some 9) (.bin .lss (.t 5) (.t 8)) <|
  .nil
def Q71_4 : AT := .q (.op 0 (some 12) (.faddr 0 (.t 3)) <|
  .op 1 (some 13) (.loadS (.t 12)) <|
  .op 3 (some 15) (.faddr 0 (.t 1)) <|
  .op 4 (some 16) (.loadS (.t 15)) <|
  .op 5 (some 17) (.mv (.t 4)) <|
  .op 6 (some 18) (.iaddrS 1 (.t 16) (.t 17)) <|
  .op 7 (some 19) (.loadS (.t 18)) <|
  .nil) <|
  .s 2 (some 14) (.buildSl 33 0 [] []) false (
  .q (.nil) <|
  .s 8 (some 20) (.append 33 5 40 [(.int .i64 0), (.int .i64 0), (.int .i64 0), (.int .i64 0), (.int .i64 0)] (.t 14) (.t 19)) false (
  .q (.nil) <|
  .s 9 (some 21) (.buildSl 31 1 [(.slice none 0 0)] [(0, 1, (.t 20))]) false (
  .q (.nil) <|
  .s 10 (some 22) (.append 31 1 24 [(.slice none 0 0)] (.t 13) (.t 21)) true (
  .q (.op 11 (some 23) (.faddr 0 (.t 3)) <|
  .nil) <|
  .s 12 none (.store 1 (.t 23) (.t 22)) true (
  .q (.nil) <|
  .fin) <|
  .no) <|
  .no) <|
  .no) <|
  .no) <|
  .no
def Q71_5 : Sts := .op (some 10) (.mv (.t 4)) <|
  .op (some 11) (.bin .add (.t 10) (.c (.int .i64 1))) <|
  .op (some 4) (.mv (.t 11)) <|
  .nil
def Q71_L6 : RCode := (.seq (.seq (.reg Q71_3) (.cond (.t 9) .skip (.exit 0))) (.seq (.block 1 (.any Q71_4)) (.reg Q71_5)))
def Q71_6 : Sts := .op (some 24) (.loadA 1 (.t 3)) <|
  .op none (.store 1 (.t 2) (.t 24)) <|
  .nil
def Q71 : RFun := ⟨25, [0, 1, 2, 3, 4], (.seq (.reg Q71_0) (.seq (.reg Q71_1) (.seq (.seq (.reg Q71_2) (.block 0 (.loop Q71_L6))) (.seq (.reg Q71_6) .ret)))), [.cellA 2 1]⟩
theorem Q71_ok : compF Try.prog [0, 1, 2, 3, 4] [16, 18, 23, 27, 30, 32, 36, 46, 49, 50, 43, 41, 66, 69, 71, 75, 78, 83, 99, 100, 101, 107, 108, 48, 58, 81, 82, 110, 111, 112] 10 = some Q71 := by kernel_rfl

/- lockless/locklessref01.Copy -/
def Q66_0 : Sts := .op (some 2) (.mv (.c (.slice none 0 0))) <|
  .nil
def Q66_1 : Sts := .op (some 3) (.buildSl 3 0 [] []) <|
  .op (some 4) (.mv (.t 0)) <|
  .op (some 5) (.append 3 1 8 [(.int .i64 0)] (.t 3) (.t 4)) <|
  .op (some 2) (.mv (.t 5)) <|
  .nil
def Q66 : RFun := ⟨6, [0, 2], (.seq (.reg Q66_0) (.seq (.reg Q66_1) .ret)), [.tmp 2]⟩
theorem Q66_ok : compF Try.prog [0, 2] [16, 18, 23, 27, 30, 32, 36, 46, 49, 50, 43, 41, 66, 69, 71, 75, 78, 83, 99, 100, 101, 107, 108, 48, 58, 81, 82, 110, 111, 112] 11 = some Q66 := by kernel_rfl

/- lockless/locklessref01.Within -/
def Q70_0 : Sts := .op (some 4) (.mv (.c (.bool false))) <|
  .nil
def Q70_1 : Sts := .op (some 5) (.mv (.c (.int .i64 0))) <|
  .nil
def Q70_2 : Sts := .op (some 8) (.mv (.t 0)) <|
  .op (some 9) (.len (.t 8)) <|
  .op (some 6) (.mv (.t 9)) <|
  .nil
def Q70_3 : Sts := .op (some 10) (.mv (.t 5)) <|
  .op (some 11) (.mv (.t 6)) <|
  .op (some 12) (.bin .lss (.t 10) (.t 11)) <|
  .nil
def Q70_4 : Sts := .op (some 13) (.mv (.t 5)) <|
  .op (some 14) (.mv (.t 6)) <|
  .op (some 15) (.bin .add (.t 13) (.t 14)) <|
  .op (some 16) (.bin .quo (.t 15) (.c (.int .i64 2))) <|
  .op (some 7) (.mv (.t 16)) <|
  .nil
def Q70_5 : Sts := .op (some 17) (.mv (.t 0)) <|
  .op (some 18) (.mv (.t 7)) <|
  .op (some 19) (.iaddrS 1 (.t 17) (.t 18)) <|
  .op (some 20) (.loadS (.t 19)) <|
  .op (some 21) (.mv (.t 1)) <|
  .op (some 22) (.call 23 [(.t 20), (.t 21)]) <|
  .nil
def Q70_6 : Sts := .op (some 23) (.mv (.t 7)) <|
  .op (some 24) (.bin .add (.t 23) (.c (.int .i64 1))) <|
  .op (some 5) (.mv (.t 24)) <|
  .nil
def Q70_7 : Sts := .op (some 25) (.mv (.t 7)) <|
  .op (some 6) (.mv (.t 25)) <|
  .nil
def Q70_L8 : RCode := (.seq (.seq (.reg Q70_3) (.cond (.t 12) .skip (.exit 0))) (.block 1 (.seq (.reg Q70_4) (.seq (.reg Q70_5) (.cond (.t 22) (.reg Q70_6) (.reg Q70_7))))))
def Q70_8 : Sts := .op (some 26) (.mv (.t 5)) <|
  .op (some 27) (.mv (.t 0)) <|
  .op (some 28) (.len (.t 27)) <|
  .op (some 29) (.bin .lss (.t 26) (.t 28)) <|
  .op (some 30) (.mv (.t 29)) <|
  .cnd 30 true (
  .op (some 31) (.mv (.t 0)) <|
  .op (some 32) (.mv (.t 5)) <|
  .op (some 33) (.iaddrS 1 (.t 31) (.t 32)) <|
  .op (some 34) (.loadS (.t 33)) <|
  .op (some 35) (.mv (.t 1)) <|
  .op (some 36) (.call 18 [(.t 34), (.t 35)]) <|
  .nil) 37 (.t 36) <|
  .op (some 4) (.mv (.t 37)) <|
  .nil
def Q70 : RFun := ⟨38, [0, 1, 4, 5, 6, 7], (.seq (.reg Q70_0) (.seq (.reg Q70_1) (.seq (.reg Q70_2) (.seq (.block 0 (.loop Q70_L8)) (.seq (.reg Q70_8) .ret))))), [.tmp 4]⟩
theorem Q70_ok : compF Try.prog [0, 1, 4, 5, 6, 7] [16, 18, 23, 27, 30, 32, 36, 46, 49, 50, 43, 41, 66, 69, 71, 75, 78, 83, 99, 100, 101, 107, 108, 48, 58, 81, 82, 110, 111, 112] 12 = some Q70 := by kernel_rfl

/- lockless/axiom.Count -/
def Q0_0 : Sts := .op (some 1) (.box 24 (.t 0)) <|
  .op (some 2) (.mv (.c (.int .i64 0))) <|
  .op (some 3) (.mv (.c (.int .i64 0))) <|
  .nil
def Q0_1 : Sts := .op (some 8) (.loadA 1 (.t 1)) <|
  .op (some 9) (.call 19 [(.t 8)]) <|
  .op (some 7) (.mv (.t 9)) <|
  .op (some 10) (.extract 0 (.t 7)) <|
  .op (some 11) (.extract 1 (.t 7)) <|
  .op (some 4) (.mv (.t 10)) <|
  .op (some 5) (.mv (.t 11)) <|
  .nil
def Q0_2 : Sts := .op (some 12) (.mv (.t 5)) <|
  .op (some 13) (.bin .neq (.t 12) (.c (.int .i64 0))) <|
  .nil
def Q0_3 : Sts := .op (some 14) (.mv (.t 5)) <|
  .op (some 2) (.mv (.c (.int .i64 0))) <|
  .op (some 3) (.mv (.t 14)) <|
  .nil
def Q0_4 : Sts := .op (some 6) (.alloc 3 [(.int .i64 0)]) <|
  .op none (.store 1 (.t 6) (.c (.int .i64 0))) <|
  .nil
def Q0_5 : Sts := .op (some 15) (.mv (.t 4)) <|
  .op (some 16) (.call 20 [(.t 15)]) <|
  .nil
def Q0_6 : Sts := .op (some 18) (.loadI .i64 (.t 6)) <|
  .op (some 19) (.bin .add (.t 18) (.c (.int .i64 1))) <|
  .op none (.store 1 (.t 6) (.t 19)) <|
  .nil
def R_axiom_Count_A7 : RCode := .skip
def R_axiom_Count_B7 : RCode := (.block 1 (.reg Q0_6))
def Q0_8 : Sts := .op (some 20) (.loadI .i64 (.t 6)) <|
  .op (some 2) (.mv (.t 20)) <|
  .op (some 3) (.mv (.c (.int .i64 0))) <|
  .nil
def Q0 : RFun := ⟨21, [0, 1, 2, 3, 4, 5, 6, 16], (.seq (.reg Q0_0) (.seq (.reg Q0_1) (.seq (.seq (.reg Q0_2) (.cond (.t 13) (.seq (.reg Q0_3) .ret) .skip)) (.seq (.reg Q0_4) (.seq (.seq (.reg Q0_5) (.block 0 (.rangeF (.t 16) [17] R_axiom_Count_A7 R_axiom_Count_B7))) (.seq (.reg Q0_8) .ret)))))), [.tmp 2, .tmp 3]⟩
theorem Q0_ok : compF Try.prog [0, 1, 2, 3, 4, 5, 6, 16] [16, 18, 23, 27, 30, 32, 36, 46, 49, 50, 43, 41, 66, 69, 71, 75, 78, 83, 99, 100, 101, 107, 108, 48, 58, 81, 82, 110, 111, 112] 13 = some Q0 := by kernel_rfl

/- lockless/locklesslaw04.turned -/
def Q65_0 : Sts := .op (some 2) (.box 24 (.t 0)) <|
  .op (some 4) (.mv (.c (.slice none 0 0))) <|
  .nil
def Q65_1 : Sts := .op (some 5) (.mv (.c (.slice none 0 0))) <|
  .nil
def Q65_2 : Sts := .op (some 12) (.mv (.t 1)) <|
  .op (some 13) (.len (.t 12)) <|
  .op (some 14) (.bin .sub (.t 13) (.c (.int .i64 3))) <|
  .op (some 6) (.mv (.t 14)) <|
  .nil
def Q65_3 : Sts := .op (some 15) (.mv (.t 6)) <|
  .op (some 7) (.mv (.t 15)) <|
  .nil
def Q65_4 : Sts := .op (some 16) (.faddr 0 (.t 2)) <|
  .op (some 17) (.loadS (.t 16)) <|
  .op (some 18) (.len (.t 17)) <|
  .op (some 19) (.bin .sub (.t 18) (.c (.int .i64 1))) <|
  .op (some 8) (.mv (.t 19)) <|
  .nil
def Q65_5 : Sts := .op (some 20) (.mv (.t 8)) <|
  .op (some 21) (.bin .geq (.t 20) (.c (.int .i64 0))) <|
  .nil
def Q65_6 : Sts := .op (some 9) (.mv (.c (.int .i64 0))) <|
  .nil
def Q65_7 : Sts := .op (some 10) (.mv (.c (.int .i64 0))) <|
  .nil
def Q65_8 : Sts := .op (some 24) (.mv (.t 10)) <|
  .op (some 25) (.faddr 0 (.t 2)) <|
  .op (some 26) (.loadS (.t 25)) <|
  .op (some 27) (.mv (.t 8)) <|
  .op (some 28) (.iaddrS 1 (.t 26) (.t 27)) <|
  .op (some 29) (.loadS (.t 28)) <|
  .op (some 30) (.len (.t 29)) <|
  .op (some 31) (.bin .lss (.t 24) (.t 30)) <|
  .nil
def Q65_9 : Sts := .op (some 34) (.faddr 0 (.t 2)) <|
  .op (some 35) (.loadS (.t 34)) <|
  .op (some 36) (.mv (.t 8)) <|
  .op (some 37) (.iaddrS 1 (.t 35) (.t 36)) <|
  .op (some 38) (.loadS (.t 37)) <|
  .op (some 39) (.mv (.t 10)) <|
  .op (some 40) (.iaddrS 5 (.t 38) (.t 39)) <|
  .op (some 41) (.faddr 0 (.t 40)) <|
  .op (some 42) (.loadI .i64 (.t 41)) <|
  .op (some 11) (.mv (.t 42)) <|
  .nil
def Q65_10 : Sts := .op (some 43) (.mv (.t 11)) <|
  .op (some 44) (.bin .eql (.t 43) (.c (.int .i64 0))) <|
  .op (some 45) (.mv (.t 44)) <|
  .cnd 45 false (
  .op (some 46) (.mv (.t 11)) <|
  .op (some 47) (.bin .geq (.t 46) (.c (.int .i64 2))) <|
  .op (some 48) (.mv (.t 47)) <|
  .cnd 48 true (
  .op (some 49) (.mv (.t 11)) <|
  .op (some 50) (.bin .leq (.t 49) (.c (.int .i64 4))) <|
  .nil) 51 (.t 50) <|
  .nil) 52 (.t 51) <|
  .nil
def Q65_11 : Sts := .op (some 53) (.mv (.t 9)) <|
  .op (some 54) (.bin .add (.t 53) (.c (.int .i64 1))) <|
  .op (some 9) (.mv (.t 54)) <|
  .nil
def Q65_12 : Sts := .op (some 32) (.mv (.t 10)) <|
  .op (some 33) (.bin .add (.t 32) (.c (.int .i64 1))) <|
  .op (some 10) (.mv (.t 33)) <|
  .nil
def Q65_L13 : RCode := (.seq (.seq (.reg Q65_8) (.cond (.t 31) .skip (.exit 2))) (.seq (.block 3 (.seq (.reg Q65_9) (.seq (.reg Q65_10) (.cond (.t 52) (.reg Q65_11) .skip)))) (.reg Q65_12)))
def Q65_13 : Sts := .op (some 55) (.mv (.t 6)) <|
  .op (some 56) (.mv (.t 9)) <|
  .op (some 57) (.bin .sub (.t 55) (.t 56)) <|
  .op (some 6) (.mv (.t 57)) <|
  .nil
def Q65_14 : Sts := .op (some 58) (.mv (.t 6)) <|
  .op (some 59) (.bin .lss (.t 58) (.c (.int .i64 0))) <|
  .nil
def Q65_15 : Sts := .op (some 4) (.mv (.c (.slice none 0 0))) <|
  .nil
def Q65_16 : Sts := .op (some 60) (.mv (.t 5)) <|
  .op (some 61) (.mv (.t 1)) <|
  .op (some 62) (.mv (.t 6)) <|
  .op (some 63) (.mv (.t 6)) <|
  .op (some 64) (.mv (.t 9)) <|
  .op (some 65) (.bin .add (.t 63) (.t 64)) <|
  .op (some 66) (.slS 1 (.t 61) (some (.t 62)) (some (.t 65)) none) <|
  .op (some 67) (.append 3 1 8 [(.int .i64 0)] (.t 60) (.t 66)) <|
  .op (some 5) (.mv (.t 67)) <|
  .nil
def Q65_17 : Sts := .op (some 22) (.mv (.t 8)) <|
  .op (some 23) (.bin .sub (.t 22) (.c (.int .i64 1))) <|
  .op (some 8) (.mv (.t 23)) <|
  .nil
def Q65_L18 : RCode := (.seq (.seq (.reg Q65_5) (.cond (.t 21) .skip (.exit 0))) (.seq (.block 1 (.seq (.reg Q65_6) (.seq (.seq (.reg Q65_7) (.block 2 (.loop Q65_L13))) (.seq (.reg Q65_13) (.seq (.seq (.reg Q65_14) (.cond (.t 59) (.seq (.reg Q65_15) .ret) .skip)) (.reg Q65_16)))))) (.reg Q65_17)))
def Q65_18 : Sts := .op (some 68) (.mv (.t 5)) <|
  .op (some 69) (.mv (.t 1)) <|
  .op (some 70) (.mv (.t 7)) <|
  .op (some 71) (.slS 1 (.t 69) (some (.t 70)) none none) <|
  .op (some 72) (.append 3 1 8 [(.int .i64 0)] (.t 68) (.t 71)) <|
  .op (some 4) (.mv (.t 72)) <|
  .nil
def Q65 : RFun := ⟨73, [0, 1, 2, 4, 5, 6, 7, 8, 9, 10, 11], (.seq (.reg Q65_0) (.seq (.reg Q65_1) (.seq (.reg Q65_2) (.seq (.reg Q65_3) (.seq (.seq (.reg Q65_4) (.block 0 (.loop Q65_L18))) (.seq (.reg Q65_18) .ret)))))), [.tmp 4]⟩
theorem Q65_ok : compF Try.prog [0, 1, 2, 4, 5, 6, 7, 8, 9, 10, 11] [16, 18, 23, 27, 30, 32, 36, 46, 49, 50, 43, 41, 66, 69, 71, 75, 78, 83, 99, 100, 101, 107, 108, 48, 58, 81, 82, 110, 111, 112] 14 = some Q65 := by kernel_rfl

/- lockless/litmus.Interleavings -/
def Q47_0 : Sts := .op (some 1) (.box 24 (.t 0)) <|
  .op (some 2) (.mv (.c (.slice none 0 0))) <|
  .op (some 3) (.mv (.c (.int .i64 0))) <|
  .nil
def Q47_1 : Sts := .op (some 7) (.loadA 1 (.t 1)) <|
  .op (some 8) (.call 24 [(.t 7)]) <|
  .op (some 4) (.mv (.t 8)) <|
  .nil
def Q47_2 : Sts := .op (some 9) (.mv (.t 4)) <|
  .op (some 10) (.bin .neq (.t 9) (.c (.int .i64 0))) <|
  .nil
def Q47_3 : Sts := .op (some 11) (.mv (.t 4)) <|
  .op (some 2) (.mv (.c (.slice none 0 0))) <|
  .op (some 3) (.mv (.t 11)) <|
  .nil
def Q47_4 : Sts := .op (some 5) (.alloc 26 [(.slice none 0 0)]) <|
  .nil
def Q47_5 : Sts := .op (some 6) (.alloc 61 [.nilFunc]) <|
  .nil
def Q47_6 : Sts := .op (some 12) (.mkfn 25 [] [(.t 1), (.t 6), (.t 5)]) <|
  .op none (.store 1 (.t 6) (.t 12)) <|
  .nil
def Q47_7 : Sts := .op (some 13) (.loadX (.t 6)) <|
  .op (some 14) (.build [(.int .i64 0), (.int .i64 0), (.int .i64 0), (.int .i64 0), (.int .i64 0), (.int .i64 0), (.slice none 0 0), (.slice none 0 0), (.slice none 0 0)] []) <|
  .op (some 15) (.callv (.t 13) [(.t 14)]) <|
  .nil
def Q47_8 : Sts := .op (some 16) (.loadS (.t 5)) <|
  .op (some 17) (.call 29 [(.t 16), (.c (.func (.func 30) #[] #[]))]) <|
  .nil
def Q47_9 : Sts := .op (some 18) (.loadS (.t 5)) <|
  .op (some 19) (.call 31 [(.t 18), (.c (.func (.func 32) #[] #[]))]) <|
  .op (some 2) (.mv (.t 19)) <|
  .op (some 3) (.mv (.c (.int .i64 0))) <|
  .nil
def Q47 : RFun := ⟨20, [0, 1, 2, 3, 4, 5, 6], (.seq (.reg Q47_0) (.seq (.seq (.reg Q47_1) (.seq (.reg Q47_2) (.cond (.t 10) (.seq (.reg Q47_3) .ret) .skip))) (.seq (.reg Q47_4) (.seq (.reg Q47_5) (.seq (.reg Q47_6) (.seq (.reg Q47_7) (.seq (.reg Q47_8) (.seq (.reg Q47_9) .ret)))))))), [.tmp 2, .tmp 3]⟩
theorem Q47_ok : compF Try.prog [0, 1, 2, 3, 4, 5, 6] [16, 18, 23, 27, 30, 32, 36, 46, 49, 50, 43, 41, 66, 69, 71, 75, 78, 83, 99, 100, 101, 107, 108, 48, 58, 81, 82, 110, 111, 112] 15 = some Q47 := by kernel_rfl

/- lockless/locklessref01.Lists -/
def Q69_0 : Sts := .op (some 4) (.mv (.c (.bool false))) <|
  .nil
def Q69_1 : Sts := .op (some 6) (.mv (.t 0)) <|
  .op (some 7) (.len (.t 6)) <|
  .op (some 8) (.mv (.t 1)) <|
  .op (some 9) (.len (.t 8)) <|
  .op (some 10) (.bin .neq (.t 7) (.t 9)) <|
  .nil
def Q69_2 : Sts := .op (some 4) (.mv (.c (.bool false))) <|
  .nil
def Q69_3 : Sts := .op (some 5) (.mv (.c (.int .i64 0))) <|
  .nil
def Q69_4 : Sts := .op (some 11) (.mv (.t 5)) <|
  .op (some 12) (.mv (.t 0)) <|
  .op (some 13) (.len (.t 12)) <|
  .op (some 14) (.bin .lss (.t 11) (.t 13)) <|
  .nil
def Q69_5 : AT := .q (.op 0 (some 17) (.mv (.t 0)) <|
  .op 1 (some 18) (.mv (.t 5)) <|
  .op 2 (some 19) (.iaddrS 1 (.t 17) (.t 18)) <|
  .op 3 (some 20) (.loadS (.t 19)) <|
  .op 4 (some 21) (.mv (.t 1)) <|
  .op 5 (some 22) (.mv (.t 5)) <|
  .op 6 (some 23) (.iaddrS 1 (.t 21) (.t 22)) <|
  .op 7 (some 24) (.loadS (.t 23)) <|
  .op 8 (some 25) (.call 18 [(.t 20), (.t 24)]) <|
  .op 9 (some 26) (.notb (.t 25)) <|
  .nil) <|
  .fin
def Q69_6 : Sts := .op (some 4) (.mv (.c (.bool false))) <|
  .nil
def Q69_7 : Sts := .op (some 15) (.mv (.t 5)) <|
  .op (some 16) (.bin .add (.t 15) (.c (.int .i64 1))) <|
  .op (some 5) (.mv (.t 16)) <|
  .nil
def Q69_L8 : RCode := (.seq (.seq (.reg Q69_4) (.cond (.t 14) .skip (.exit 0))) (.seq (.block 1 (.seq (.any Q69_5) (.cond (.t 26) (.seq (.reg Q69_6) .ret) .skip))) (.reg Q69_7)))
def Q69_8 : Sts := .op (some 4) (.mv (.c (.bool true))) <|
  .nil
def Q69 : RFun := ⟨27, [0, 1, 4, 5], (.seq (.reg Q69_0) (.seq (.seq (.reg Q69_1) (.cond (.t 10) (.seq (.reg Q69_2) .ret) .skip)) (.seq (.seq (.reg Q69_3) (.block 0 (.loop Q69_L8))) (.seq (.reg Q69_8) .ret)))), [.tmp 4]⟩
theorem Q69_ok : compF Try.prog [0, 1, 4, 5] [16, 18, 23, 27, 30, 32, 36, 46, 49, 50, 43, 41, 66, 69, 71, 75, 78, 83, 99, 100, 101, 107, 108, 48, 58, 81, 82, 110, 111, 112] 16 = some Q69 := by kernel_rfl

/- lockless/locklesslaw04.buffers -/
def Q64_0 : Sts := .op (some 0) (.alloc 24 [(.slice none 0 0)]) <|
  .nil
def Q64_1 : Sts := .op (some 1) (.build [(.int .i64 0), (.int .i64 0), (.int .i64 0), (.int .i64 0), (.int .i64 0)] [(0, 1, (.c (.int .i64 1))), (2, 1, (.c (.int .i64 1)))]) <|
  .op (some 2) (.build [(.int .i64 0), (.int .i64 0), (.int .i64 0), (.int .i64 0), (.int .i64 0)] [(1, 1, (.c (.int .i64 1)))]) <|
  .op (some 3) (.buildSl 33 2 [(.int .i64 0), (.int .i64 0), (.int .i64 0), (.int .i64 0), (.int .i64 0), (.int .i64 0), (.int .i64 0), (.int .i64 0), (.int .i64 0), (.int .i64 0)] [(0, 5, (.t 1)), (5, 5, (.t 2))]) <|
  .op (some 4) (.build [(.int .i64 0), (.int .i64 0), (.int .i64 0), (.int .i64 0), (.int .i64 0)] [(0, 1, (.c (.int .i64 1))), (1, 1, (.c (.int .i64 1))), (2, 1, (.c (.int .i64 1)))]) <|
  .op (some 5) (.build [(.int .i64 0), (.int .i64 0), (.int .i64 0), (.int .i64 0), (.int .i64 0)] []) <|
  .op (some 6) (.buildSl 33 2 [(.int .i64 0), (.int .i64 0), (.int .i64 0), (.int .i64 0), (.int .i64 0), (.int .i64 0), (.int .i64 0), (.int .i64 0), (.int .i64 0), (.int .i64 0)] [(0, 5, (.t 4)), (5, 5, (.t 5))]) <|
  .op (some 7) (.buildSl 31 2 [(.slice none 0 0), (.slice none 0 0)] [(0, 1, (.t 3)), (1, 1, (.t 6))]) <|
  .op (some 8) (.build [(.slice none 0 0)] [(0, 1, (.t 7))]) <|
  .op none (.store 1 (.t 0) (.t 8)) <|
  .nil
def Q64 : RFun := ⟨9, [0], (.seq (.reg Q64_0) (.seq (.reg Q64_1) .ret)), [.cellA 0 1]⟩
theorem Q64_ok : compF Try.prog [0] [16, 18, 23, 27, 30, 32, 36, 46, 49, 50, 43, 41, 66, 69, 71, 75, 78, 83, 99, 100, 101, 107, 108, 48, 58, 81, 82, 110, 111, 112] 17 = some Q64 := by kernel_rfl

/- lockless/locklessref01.Ints -/
def Q67_0 : Sts := .op (some 4) (.mv (.c (.bool false))) <|
  .nil
def Q67_1 : Sts := .op (some 6) (.mv (.t 0)) <|
  .op (some 7) (.len (.t 6)) <|
  .op (some 8) (.mv (.t 1)) <|
  .op (some 9) (.len (.t 8)) <|
  .op (some 10) (.bin .neq (.t 7) (.t 9)) <|
  .nil
def Q67_2 : Sts := .op (some 4) (.mv (.c (.bool false))) <|
  .nil
def Q67_3 : Sts := .op (some 5) (.mv (.c (.int .i64 0))) <|
  .nil
def Q67_4 : Sts := .op (some 11) (.mv (.t 5)) <|
  .op (some 12) (.mv (.t 0)) <|
  .op (some 13) (.len (.t 12)) <|
  .op (some 14) (.bin .lss (.t 11) (.t 13)) <|
  .nil
def Q67_5 : AT := .q (.op 0 (some 17) (.mv (.t 0)) <|
  .op 1 (some 18) (.mv (.t 5)) <|
  .op 2 (some 19) (.iaddrS 1 (.t 17) (.t 18)) <|
  .op 3 (some 20) (.loadI .i64 (.t 19)) <|
  .op 4 (some 21) (.mv (.t 1)) <|
  .op 5 (some 22) (.mv (.t 5)) <|
  .op 6 (some 23) (.iaddrS 1 (.t 21) (.t 22)) <|
  .op 7 (some 24) (.loadI .i64 (.t 23)) <|
  .op 8 (some 25) (.bin .neq (.t 20) (.t 24)) <|
  .nil) <|
  .fin
def Q67_6 : Sts := .op (some 4) (.mv (.c (.bool false))) <|
  .nil
def Q67_7 : Sts := .op (some 15) (.mv (.t 5)) <|
  .op (some 16) (.bin .add (.t 15) (.c (.int .i64 1))) <|
  .op (some 5) (.mv (.t 16)) <|
  .nil
def Q67_L8 : RCode := (.seq (.seq (.reg Q67_4) (.cond (.t 14) .skip (.exit 0))) (.seq (.block 1 (.seq (.any Q67_5) (.cond (.t 25) (.seq (.reg Q67_6) .ret) .skip))) (.reg Q67_7)))
def Q67_8 : Sts := .op (some 4) (.mv (.c (.bool true))) <|
  .nil
def Q67 : RFun := ⟨26, [0, 1, 4, 5], (.seq (.reg Q67_0) (.seq (.seq (.reg Q67_1) (.cond (.t 10) (.seq (.reg Q67_2) .ret) .skip)) (.seq (.seq (.reg Q67_3) (.block 0 (.loop Q67_L8))) (.seq (.reg Q67_8) .ret)))), [.tmp 4]⟩
theorem Q67_ok : compF Try.prog [0, 1, 4, 5] [16, 18, 23, 27, 30, 32, 36, 46, 49, 50, 43, 41, 66, 69, 71, 75, 78, 83, 99, 100, 101, 107, 108, 48, 58, 81, 82, 110, 111, 112] 18 = some Q67 := by kernel_rfl

/- lockless/axiom.of -/
def Q8_0 : Sts := .op (some 1) (.box 24 (.t 0)) <|
  .op (some 2) (.mv (.c (.slice none 0 0))) <|
  .op (some 3) (.mv (.c (.int .i64 0))) <|
  .nil
def Q8_1 : Sts := .op (some 12) (.loadA 1 (.t 1)) <|
  .op (some 13) (.call 33 [(.t 12)]) <|
  .op (some 11) (.mv (.t 13)) <|
  .op (some 14) (.extract 0 (.t 11)) <|
  .op (some 15) (.extract 1 (.t 11)) <|
  .op (some 4) (.alloc 24 [(.slice none 0 0)]) <|
  .op none (.store 1 (.t 4) (.t 14)) <|
  .op (some 5) (.mv (.t 15)) <|
  .nil
def Q8_2 : Sts := .op (some 16) (.mv (.t 5)) <|
  .op (some 17) (.bin .neq (.t 16) (.c (.int .i64 0))) <|
  .nil
def Q8_3 : Sts := .op (some 18) (.mv (.t 5)) <|
  .op (some 2) (.mv (.c (.slice none 0 0))) <|
  .op (some 3) (.mv (.t 18)) <|
  .nil
def Q8_4 : Sts := .op (some 6) (.mv (.c (.slice none 0 0))) <|
  .nil
def Q8_5 : Sts := .op (some 19) (.faddr 0 (.t 4)) <|
  .op (some 20) (.loadS (.t 19)) <|
  .op (some 21) (.len (.t 20)) <|
  .op (some 22) (.mv (.c (.int .i64 0))) <|
  .nil
def Q8_6 : Sts := .op (some 23) (.bin .lss (.t 22) (.t 21)) <|
  .nil
def Q8_7 : Sts := .op (some 24) (.mv (.t 22)) <|
  .op (some 25) (.iaddrS 1 (.t 20) (.t 22)) <|
  .op (some 26) (.loadS (.t 25)) <|
  .op (some 7) (.mv (.t 24)) <|
  .op (some 8) (.mv (.t 26)) <|
  .nil
def Q8_8 : Sts := .op (some 27) (.mv (.t 8)) <|
  .op (some 28) (.len (.t 27)) <|
  .op (some 29) (.mv (.c (.int .i64 0))) <|
  .nil
def Q8_9 : Sts := .op (some 30) (.bin .lss (.t 29) (.t 28)) <|
  .nil
def Q8_10 : Sts := .op (some 31) (.iaddrS 5 (.t 27) (.t 29)) <|
  .op (some 32) (.loadA 5 (.t 31)) <|
  .op (some 10) (.alloc 33 [(.int .i64 0), (.int .i64 0), (.int .i64 0), (.int .i64 0), (.int .i64 0)]) <|
  .op none (.store 5 (.t 10) (.t 32)) <|
  .nil
def Q8_11 : Sts := .op (some 33) (.mv (.t 6)) <|
  .op (some 34) (.loadA 5 (.t 10)) <|
  .op (some 35) (.mv (.t 7)) <|
  .op (some 36) (.build [(.int .i64 0), (.int .i64 0), (.int .i64 0), (.int .i64 0), (.int .i64 0), (.int .i64 0)] [(0, 5, (.t 34)), (5, 1, (.t 35))]) <|
  .op (some 37) (.buildSl 76 1 [(.int .i64 0), (.int .i64 0), (.int .i64 0), (.int .i64 0), (.int .i64 0), (.int .i64 0)] [(0, 6, (.t 36))]) <|
  .op (some 38) (.append 76 6 48 [(.int .i64 0), (.int .i64 0), (.int .i64 0), (.int .i64 0), (.int .i64 0), (.int .i64 0)] (.t 33) (.t 37)) <|
  .op (some 6) (.mv (.t 38)) <|
  .nil
def Q8_12 : Sts := .op (some 39) (.bin .add (.t 29) (.c (.int .i64 1))) <|
  .op (some 29) (.mv (.t 39)) <|
  .nil
def Q8_L13 : RCode := (.seq (.reg Q8_9) (.seq (.cond (.t 30) .skip (.exit 2)) (.seq (.block 3 (.seq (.reg Q8_10) (.reg Q8_11))) (.reg Q8_12))))
def Q8_13 : Sts := .op (some 40) (.bin .add (.t 22) (.c (.int .i64 1))) <|
  .op (some 22) (.mv (.t 40)) <|
  .nil
def Q8_L14 : RCode := (.seq (.reg Q8_6) (.seq (.cond (.t 23) .skip (.exit 0)) (.seq (.block 1 (.seq (.reg Q8_7) (.seq (.reg Q8_8) (.block 2 (.loop Q8_L13))))) (.reg Q8_13))))
def Q8_14 : Sts := .op (some 41) (.mv (.t 6)) <|
  .op (some 2) (.mv (.t 41)) <|
  .op (some 3) (.mv (.c (.int .i64 0))) <|
  .nil
def Q8 : RFun := ⟨42, [0, 1, 2, 3, 4, 5, 6, 7, 8, 10, 20, 21, 22, 27, 28, 29], (.seq (.reg Q8_0) (.seq (.reg Q8_1) (.seq (.seq (.reg Q8_2) (.cond (.t 17) (.seq (.reg Q8_3) .ret) .skip)) (.seq (.reg Q8_4) (.seq (.seq (.reg Q8_5) (.block 0 (.loop Q8_L14))) (.seq (.reg Q8_14) .ret)))))), [.tmp 2, .tmp 3]⟩
theorem Q8_ok : compF Try.prog [0, 1, 2, 3, 4, 5, 6, 7, 8, 10, 20, 21, 22, 27, 28, 29] [16, 18, 23, 27, 30, 32, 36, 46, 49, 50, 43, 41, 66, 69, 71, 75, 78, 83, 99, 100, 101, 107, 108, 48, 58, 81, 82, 110, 111, 112] 19 = some Q8 := by kernel_rfl

/- (lockless/axiom.program).executions -/
def Q17_0 : Sts := .op (some 1) (.box 49 (.t 0)) <|
  .op (some 2) (.mv (.c .nilFunc)) <|
  .nil
def Q17_1 : Sts := .op (some 4) (.loadS (.t 1)) <|
  .op (some 5) (.mkfn 35 [] [(.t 1)]) <|
  .op (some 6) (.call 34 [(.t 4), (.t 5)]) <|
  .op (some 3) (.alloc 34 [(.slice none 0 0)]) <|
  .op none (.store 1 (.t 3) (.t 6)) <|
  .nil
def Q17_2 : Sts := .op (some 7) (.mkfn 37 [] [(.t 1), (.t 3)]) <|
  .op (some 2) (.mv (.t 7)) <|
  .nil
def Q17 : RFun := ⟨8, [0, 1, 2, 3], (.seq (.reg Q17_0) (.seq (.reg Q17_1) (.seq (.reg Q17_2) .ret))), [.tmp 2]⟩
theorem Q17_ok : compF Try.prog [0, 1, 2, 3] [16, 18, 23, 27, 30, 32, 36, 46, 49, 50, 43, 41, 66, 69, 71, 75, 78, 83, 99, 100, 101, 107, 108, 48, 58, 81, 82, 110, 111, 112] 20 = some Q17 := by kernel_rfl

/- (lockless/axiom.program).outcome -/
def Q29_0 : Sts := .op (some 3) (.box 57 (.t 1)) <|
  .op (some 4) (.mv (.c (.slice none 0 0))) <|
  .nil
def Q29_1 : Sts := .op (some 15) (.mv (.t 0)) <|
  .op (some 16) (.loadA 4 (.t 3)) <|
  .op (some 17) (.call 45 [(.t 15), (.t 16)]) <|
  .op (some 14) (.mv (.t 17)) <|
  .op (some 18) (.extract 0 (.t 14)) <|
  .op (some 19) (.extract 1 (.t 14)) <|
  .op (some 20) (.extract 2 (.t 14)) <|
  .op (some 5) (.mv (.t 18)) <|
  .op (some 6) (.mv (.t 19)) <|
  .op (some 7) (.mv (.t 20)) <|
  .nil
def Q29_2 : Sts := .op (some 8) (.mv (.c (.slice none 0 0))) <|
  .nil
def Q29_3 : Sts := .op (some 21) (.mv (.t 0)) <|
  .op (some 22) (.len (.t 21)) <|
  .op (some 23) (.mv (.c (.int .i64 0))) <|
  .nil
def Q29_4 : Sts := .op (some 24) (.bin .lss (.t 23) (.t 22)) <|
  .nil
def Q29_5 : Sts := .op (some 25) (.mv (.t 23)) <|
  .op (some 26) (.iaddrS 6 (.t 21) (.t 23)) <|
  .op (some 27) (.loadA 6 (.t 26)) <|
  .op (some 10) (.alloc 76 [(.int .i64 0), (.int .i64 0), (.int .i64 0), (.int .i64 0), (.int .i64 0), (.int .i64 0)]) <|
  .op (some 9) (.mv (.t 25)) <|
  .op none (.store 6 (.t 10) (.t 27)) <|
  .nil
def Q29_6 : Sts := .op (some 28) (.loadA 6 (.t 10)) <|
  .op (some 29) (.call 46 [(.t 28)]) <|
  .nil
def Q29_7 : Sts := .op (some 30) (.mv (.t 8)) <|
  .op (some 31) (.mv (.t 5)) <|
  .op (some 32) (.mv (.t 9)) <|
  .op (some 33) (.iaddrS 1 (.t 31) (.t 32)) <|
  .op (some 34) (.loadI .i64 (.t 33)) <|
  .op (some 35) (.buildSl 3 1 [(.int .i64 0)] [(0, 1, (.t 34))]) <|
  .op (some 36) (.append 3 1 8 [(.int .i64 0)] (.t 30) (.t 35)) <|
  .op (some 8) (.mv (.t 36)) <|
  .nil
def Q29_8 : Sts := .op (some 37) (.bin .add (.t 23) (.c (.int .i64 1))) <|
  .op (some 23) (.mv (.t 37)) <|
  .nil
def Q29_L9 : RCode := (.seq (.reg Q29_4) (.seq (.cond (.t 24) .skip (.exit 0)) (.seq (.block 1 (.seq (.reg Q29_5) (.seq (.reg Q29_6) (.cond (.t 29) (.reg Q29_7) .skip)))) (.reg Q29_8))))
def Q29_9 : Sts := .op (some 38) (.faddr 2 (.t 3)) <|
  .op (some 39) (.loadS (.t 38)) <|
  .op (some 40) (.len (.t 39)) <|
  .op (some 41) (.mv (.c (.int .i64 0))) <|
  .nil
def Q29_10 : Sts := .op (some 42) (.bin .lss (.t 41) (.t 40)) <|
  .nil
def Q29_11 : Sts := .op (some 43) (.iaddrS 1 (.t 39) (.t 41)) <|
  .op (some 44) (.loadS (.t 43)) <|
  .op (some 12) (.mv (.t 44)) <|
  .nil
def Q29_12 : Sts := .op (some 13) (.mv (.c (.int .i64 0))) <|
  .nil
def Q29_13 : Sts := .op (some 45) (.mv (.t 12)) <|
  .op (some 46) (.len (.t 45)) <|
  .op (some 47) (.bin .gtr (.t 46) (.c (.int .i64 0))) <|
  .nil
def Q29_14 : Sts := .op (some 48) (.mv (.t 6)) <|
  .op (some 49) (.mv (.t 12)) <|
  .op (some 50) (.mv (.t 12)) <|
  .op (some 51) (.len (.t 50)) <|
  .op (some 52) (.bin .sub (.t 51) (.c (.int .i64 1))) <|
  .op (some 53) (.iaddrS 1 (.t 49) (.t 52)) <|
  .op (some 54) (.loadI .i64 (.t 53)) <|
  .op (some 55) (.iaddrS 1 (.t 48) (.t 54)) <|
  .op (some 56) (.loadI .i64 (.t 55)) <|
  .op (some 13) (.mv (.t 56)) <|
  .nil
def Q29_15 : Sts := .op (some 57) (.mv (.t 8)) <|
  .op (some 58) (.mv (.t 13)) <|
  .op (some 59) (.buildSl 3 1 [(.int .i64 0)] [(0, 1, (.t 58))]) <|
  .op (some 60) (.append 3 1 8 [(.int .i64 0)] (.t 57) (.t 59)) <|
  .op (some 8) (.mv (.t 60)) <|
  .nil
def Q29_16 : Sts := .op (some 61) (.bin .add (.t 41) (.c (.int .i64 1))) <|
  .op (some 41) (.mv (.t 61)) <|
  .nil
def Q29_L17 : RCode := (.seq (.reg Q29_10) (.seq (.cond (.t 42) .skip (.exit 2)) (.seq (.block 3 (.seq (.reg Q29_11) (.seq (.reg Q29_12) (.seq (.seq (.reg Q29_13) (.cond (.t 47) (.reg Q29_14) .skip)) (.reg Q29_15))))) (.reg Q29_16))))
def Q29_17 : Sts := .op (some 62) (.mv (.t 8)) <|
  .op (some 4) (.mv (.t 62)) <|
  .nil
def Q29 : RFun := ⟨63, [0, 1, 3, 4, 5, 6, 8, 9, 10, 12, 13, 21, 22, 23, 39, 40, 41], (.seq (.reg Q29_0) (.seq (.reg Q29_1) (.seq (.reg Q29_2) (.seq (.seq (.reg Q29_3) (.block 0 (.loop Q29_L9))) (.seq (.seq (.reg Q29_9) (.block 2 (.loop Q29_L17))) (.seq (.reg Q29_17) .ret)))))), [.tmp 4]⟩
theorem Q29_ok : compF Try.prog [0, 1, 3, 4, 5, 6, 8, 9, 10, 12, 13, 21, 22, 23, 39, 40, 41] [16, 18, 23, 27, 30, 32, 36, 46, 49, 50, 43, 41, 66, 69, 71, 75, 78, 83, 99, 100, 101, 107, 108, 48, 58, 81, 82, 110, 111, 112] 21 = some Q29 := by kernel_rfl

/- lockless/axiom.distinct -/
def Q3_0 : Sts := .op (some 2) (.mv (.c (.slice none 0 0))) <|
  .nil
def Q3_1 : Sts := .op (some 3) (.mv (.t 0)) <|
  .op (some 4) (.call 29 [(.t 3), (.c (.func (.func 30) #[] #[]))]) <|
  .nil
def Q3_2 : Sts := .op (some 5) (.mv (.t 0)) <|
  .op (some 6) (.call 31 [(.t 5), (.c (.func (.func 32) #[] #[]))]) <|
  .op (some 2) (.mv (.t 6)) <|
  .nil
def Q3 : RFun := ⟨7, [0, 2], (.seq (.reg Q3_0) (.seq (.reg Q3_1) (.seq (.reg Q3_2) .ret))), [.tmp 2]⟩
theorem Q3_ok : compF Try.prog [0, 2] [16, 18, 23, 27, 30, 32, 36, 46, 49, 50, 43, 41, 66, 69, 71, 75, 78, 83, 99, 100, 101, 107, 108, 48, 58, 81, 82, 110, 111, 112] 22 = some Q3 := by kernel_rfl

/- lockless/locklessref01.Less -/
def Q68_0 : Sts := .op (some 4) (.mv (.c (.bool false))) <|
  .nil
def Q68_1 : Sts := .op (some 5) (.mv (.c (.int .i64 0))) <|
  .nil
def Q68_2 : Sts := .op (some 6) (.mv (.t 5)) <|
  .op (some 7) (.mv (.t 0)) <|
  .op (some 8) (.len (.t 7)) <|
  .op (some 9) (.bin .lss (.t 6) (.t 8)) <|
  .op (some 10) (.mv (.t 9)) <|
  .cnd 10 true (
  .op (some 11) (.mv (.t 5)) <|
  .op (some 12) (.mv (.t 1)) <|
  .op (some 13) (.len (.t 12)) <|
  .op (some 14) (.bin .lss (.t 11) (.t 13)) <|
  .nil) 15 (.t 14) <|
  .nil
def Q68_3 : AT := .q (.op 0 (some 18) (.mv (.t 0)) <|
  .op 1 (some 19) (.mv (.t 5)) <|
  .op 2 (some 20) (.iaddrS 1 (.t 18) (.t 19)) <|
  .op 3 (some 21) (.loadI .i64 (.t 20)) <|
  .op 4 (some 22) (.mv (.t 1)) <|
  .op 5 (some 23) (.mv (.t 5)) <|
  .op 6 (some 24) (.iaddrS 1 (.t 22) (.t 23)) <|
  .op 7 (some 25) (.loadI .i64 (.t 24)) <|
  .op 8 (some 26) (.bin .neq (.t 21) (.t 25)) <|
  .nil) <|
  .fin
def Q68_4 : AT := .q (.op 0 (some 27) (.mv (.t 0)) <|
  .op 1 (some 28) (.mv (.t 5)) <|
  .op 2 (some 29) (.iaddrS 1 (.t 27) (.t 28)) <|
  .op 3 (some 30) (.loadI .i64 (.t 29)) <|
  .op 4 (some 31) (.mv (.t 1)) <|
  .op 5 (some 32) (.mv (.t 5)) <|
  .op 6 (some 33) (.iaddrS 1 (.t 31) (.t 32)) <|
  .op 7 (some 34) (.loadI .i64 (.t 33)) <|
  .op 8 (some 35) (.bin .lss (.t 30) (.t 34)) <|
  .op 9 (some 4) (.mv (.t 35)) <|
  .nil) <|
  .fin
def Q68_5 : Sts := .op (some 16) (.mv (.t 5)) <|
  .op (some 17) (.bin .add (.t 16) (.c (.int .i64 1))) <|
  .op (some 5) (.mv (.t 17)) <|
  .nil
def Q68_L6 : RCode := (.seq (.seq (.reg Q68_2) (.cond (.t 15) .skip (.exit 0))) (.seq (.block 1 (.seq (.any Q68_3) (.cond (.t 26) (.seq (.any Q68_4) .ret) .skip))) (.reg Q68_5)))
def Q68_6 : Sts := .op (some 36) (.mv (.t 0)) <|
  .op (some 37) (.len (.t 36)) <|
  .op (some 38) (.mv (.t 1)) <|
  .op (some 39) (.len (.t 38)) <|
  .op (some 40) (.bin .lss (.t 37) (.t 39)) <|
  .op (some 4) (.mv (.t 40)) <|
  .nil
def Q68 : RFun := ⟨41, [0, 1, 4, 5], (.seq (.reg Q68_0) (.seq (.seq (.reg Q68_1) (.block 0 (.loop Q68_L6))) (.seq (.reg Q68_6) .ret))), [.tmp 4]⟩
theorem Q68_ok : compF Try.prog [0, 1, 4, 5] [16, 18, 23, 27, 30, 32, 36, 46, 49, 50, 43, 41, 66, 69, 71, 75, 78, 83, 99, 100, 101, 107, 108, 48, 58, 81, 82, 110, 111, 112] 23 = some Q68 := by kernel_rfl

/- lockless/litmus.Check -/
def Q44_0 : Sts := .op (some 1) (.box 24 (.t 0)) <|
  .op (some 2) (.mv (.c (.int .i64 0))) <|
  .nil
def Q44_1 : Sts := .op (some 9) (.loadA 1 (.t 1)) <|
  .op (some 10) (.call 47 [(.t 9)]) <|
  .op (some 11) (.notb (.t 10)) <|
  .nil
def Q44_2 : Sts := .op (some 2) (.mv (.c (.int .i64 2))) <|
  .nil
def Q44_3 : Sts := .op (some 12) (.faddr 0 (.t 1)) <|
  .op (some 13) (.loadS (.t 12)) <|
  .op (some 14) (.len (.t 13)) <|
  .op (some 15) (.bin .eql (.t 14) (.c (.int .i64 0))) <|
  .nil
def Q44_4 : Sts := .op (some 2) (.mv (.c (.int .i64 1))) <|
  .nil
def Q44_5 : Sts := .op (some 16) (.faddr 0 (.t 1)) <|
  .op (some 17) (.loadS (.t 16)) <|
  .op (some 18) (.len (.t 17)) <|
  .op (some 19) (.mv (.c (.int .i64 0))) <|
  .nil
def Q44_6 : Sts := .op (some 20) (.bin .lss (.t 19) (.t 18)) <|
  .nil
def Q44_7 : Sts := .op (some 21) (.iaddrS 1 (.t 17) (.t 19)) <|
  .op (some 22) (.loadS (.t 21)) <|
  .op (some 4) (.mv (.t 22)) <|
  .nil
def Q44_8 : Sts := .op (some 23) (.mv (.t 4)) <|
  .op (some 24) (.len (.t 23)) <|
  .op (some 25) (.mv (.c (.int .i64 0))) <|
  .nil
def Q44_9 : Sts := .op (some 26) (.bin .lss (.t 25) (.t 24)) <|
  .nil
def Q44_10 : Sts := .op (some 27) (.iaddrS 5 (.t 23) (.t 25)) <|
  .op (some 28) (.loadA 5 (.t 27)) <|
  .op (some 6) (.alloc 33 [(.int .i64 0), (.int .i64 0), (.int .i64 0), (.int .i64 0), (.int .i64 0)]) <|
  .op none (.store 5 (.t 6) (.t 28)) <|
  .nil
def Q44_11 : Sts := .op (some 30) (.faddr 0 (.t 6)) <|
  .op (some 31) (.loadI .i64 (.t 30)) <|
  .op (some 32) (.faddr 4 (.t 6)) <|
  .op (some 33) (.loadI .i64 (.t 32)) <|
  .op (some 34) (.call 48 [(.t 31), (.t 33)]) <|
  .op (some 29) (.mv (.t 34)) <|
  .op (some 35) (.extract 0 (.t 29)) <|
  .op (some 36) (.extract 1 (.t 29)) <|
  .op (some 7) (.mv (.t 35)) <|
  .op (some 8) (.mv (.t 36)) <|
  .nil
def Q44_12 : Sts := .op (some 37) (.mv (.t 8)) <|
  .op (some 38) (.bin .neq (.t 37) (.c (.int .i64 0))) <|
  .op (some 39) (.mv (.t 38)) <|
  .cnd 39 false (
  .op (some 40) (.mv (.t 7)) <|
  .op (some 41) (.notb (.t 40)) <|
  .nil) 42 (.t 41) <|
  .op (some 43) (.mv (.t 42)) <|
  .cnd 43 false (
  .op (some 44) (.loadA 5 (.t 6)) <|
  .op (some 45) (.call 49 [(.t 44)]) <|
  .op (some 46) (.notb (.t 45)) <|
  .nil) 47 (.t 46) <|
  .nil
def Q44_13 : Sts := .op (some 2) (.mv (.c (.int .i64 1))) <|
  .nil
def Q44_14 : Sts := .op (some 48) (.bin .add (.t 25) (.c (.int .i64 1))) <|
  .op (some 25) (.mv (.t 48)) <|
  .nil
def Q44_L15 : RCode := (.seq (.reg Q44_9) (.seq (.cond (.t 26) .skip (.exit 2)) (.seq (.block 3 (.seq (.reg Q44_10) (.seq (.reg Q44_11) (.seq (.reg Q44_12) (.cond (.t 47) (.seq (.reg Q44_13) .ret) .skip))))) (.reg Q44_14))))
def Q44_15 : Sts := .op (some 49) (.bin .add (.t 19) (.c (.int .i64 1))) <|
  .op (some 19) (.mv (.t 49)) <|
  .nil
def Q44_L16 : RCode := (.seq (.reg Q44_6) (.seq (.cond (.t 20) .skip (.exit 0)) (.seq (.block 1 (.seq (.reg Q44_7) (.seq (.reg Q44_8) (.block 2 (.loop Q44_L15))))) (.reg Q44_15))))
def Q44_16 : Sts := .op (some 2) (.mv (.c (.int .i64 0))) <|
  .nil
def Q44 : RFun := ⟨50, [0, 1, 2, 4, 6, 7, 8, 17, 18, 19, 23, 24, 25], (.seq (.reg Q44_0) (.seq (.seq (.reg Q44_1) (.cond (.t 11) (.seq (.reg Q44_2) .ret) .skip)) (.seq (.seq (.reg Q44_3) (.cond (.t 15) (.seq (.reg Q44_4) .ret) .skip)) (.seq (.seq (.reg Q44_5) (.block 0 (.loop Q44_L16))) (.seq (.reg Q44_16) .ret))))), [.tmp 2]⟩
theorem Q44_ok : compF Try.prog [0, 1, 2, 4, 6, 7, 8, 17, 18, 19, 23, 24, 25] [16, 18, 23, 27, 30, 32, 36, 46, 49, 50, 43, 41, 66, 69, 71, 75, 78, 83, 99, 100, 101, 107, 108, 48, 58, 81, 82, 110, 111, 112] 24 = some Q44 := by kernel_rfl

/- lockless/litmus.Interleavings$1 -/
def Q48_0 : Sts := .op (some 4) (.box 65 (.t 0)) <|
  .nil
def Q48_1 : Sts := .op (some 5) (.mv (.c (.bool true))) <|
  .nil
def Q48_2 : Sts := .op (some 11) (.faddr 0 (.t 1)) <|
  .op (some 12) (.loadS (.t 11)) <|
  .op (some 13) (.len (.t 12)) <|
  .op (some 14) (.mv (.c (.int .i64 0))) <|
  .nil
def Q48_3 : Sts := .op (some 15) (.bin .lss (.t 14) (.t 13)) <|
  .nil
def Q48_4 : Sts := .op (some 16) (.mv (.t 14)) <|
  .op (some 17) (.iaddrS 1 (.t 12) (.t 14)) <|
  .op (some 18) (.loadS (.t 17)) <|
  .op (some 6) (.mv (.t 16)) <|
  .op (some 7) (.mv (.t 18)) <|
  .nil
def Q48_5 : Sts := .op (some 19) (.mv (.t 6)) <|
  .op (some 20) (.faddr 3 (.t 4)) <|
  .op (some 21) (.iaddrA 3 1 (.t 20) (.t 19)) <|
  .op (some 22) (.loadI .i64 (.t 21)) <|
  .op (some 23) (.mv (.t 7)) <|
  .op (some 24) (.len (.t 23)) <|
  .op (some 25) (.bin .eql (.t 22) (.t 24)) <|
  .nil
def Q48_6 : Sts := .op (some 5) (.mv (.c (.bool false))) <|
  .nil
def Q48_7 : Sts := .op (some 26) (.mv (.t 7)) <|
  .op (some 27) (.mv (.t 6)) <|
  .op (some 28) (.faddr 3 (.t 4)) <|
  .op (some 29) (.iaddrA 3 1 (.t 28) (.t 27)) <|
  .op (some 30) (.loadI .i64 (.t 29)) <|
  .op (some 31) (.iaddrS 5 (.t 26) (.t 30)) <|
  .op (some 32) (.loadA 5 (.t 31)) <|
  .op (some 8) (.alloc 33 [(.int .i64 0), (.int .i64 0), (.int .i64 0), (.int .i64 0), (.int .i64 0)]) <|
  .op none (.store 5 (.t 8) (.t 32)) <|
  .nil
def Q48_8 : Sts := .op (some 33) (.loadA 9 (.t 4)) <|
  .op (some 34) (.mv (.t 6)) <|
  .op (some 35) (.loadA 5 (.t 8)) <|
  .op (some 36) (.call 26 [(.t 33), (.t 34), (.t 35)]) <|
  .op (some 37) (.len (.t 36)) <|
  .op (some 38) (.mv (.c (.int .i64 0))) <|
  .nil
def Q48_9 : Sts := .op (some 39) (.bin .lss (.t 38) (.t 37)) <|
  .nil
def Q48_10 : Sts := .op (some 40) (.iaddrS 9 (.t 36) (.t 38)) <|
  .op (some 41) (.loadA 9 (.t 40)) <|
  .op (some 10) (.alloc 65 [(.int .i64 0), (.int .i64 0), (.int .i64 0), (.int .i64 0), (.int .i64 0), (.int .i64 0), (.slice none 0 0), (.slice none 0 0), (.slice none 0 0)]) <|
  .op none (.store 9 (.t 10) (.t 41)) <|
  .nil
def Q48_11 : Sts := .op (some 42) (.loadX (.t 2)) <|
  .op (some 43) (.loadA 9 (.t 10)) <|
  .op (some 44) (.callv (.t 42) [(.t 43)]) <|
  .nil
def Q48_12 : Sts := .op (some 45) (.bin .add (.t 38) (.c (.int .i64 1))) <|
  .op (some 38) (.mv (.t 45)) <|
  .nil
def Q48_L13 : RCode := (.seq (.reg Q48_9) (.seq (.cond (.t 39) .skip (.exit 2)) (.seq (.block 3 (.seq (.reg Q48_10) (.reg Q48_11))) (.reg Q48_12))))
def Q48_13 : Sts := .op (some 46) (.loadA 5 (.t 8)) <|
  .op (some 47) (.call 27 [(.t 46)]) <|
  .op (some 48) (.notb (.t 47)) <|
  .nil
def Q48_14 : Sts := .op (some 49) (.bin .add (.t 14) (.c (.int .i64 1))) <|
  .op (some 14) (.mv (.t 49)) <|
  .nil
def Q48_L15 : RCode := (.seq (.reg Q48_3) (.seq (.cond (.t 15) .skip (.exit 0)) (.seq (.block 1 (.seq (.reg Q48_4) (.seq (.seq (.reg Q48_5) (.cond (.t 25) (.exit 1) .skip)) (.seq (.reg Q48_6) (.seq (.reg Q48_7) (.seq (.seq (.reg Q48_8) (.block 2 (.loop Q48_L13))) (.seq (.reg Q48_13) (.cond (.t 48) .ret .skip)))))))) (.reg Q48_14))))
def Q48_15 : Sts := .op (some 50) (.mv (.t 5)) <|
  .nil
def Q48_16 : AT := .q (.op 0 (some 51) (.loadS (.t 3)) <|
  .op 1 (some 52) (.loadA 9 (.t 4)) <|
  .nil) <|
  .s 2 (some 53) (.call 28 [(.t 52)]) false (
  .q (.nil) <|
  .s 3 (some 54) (.buildSl 34 1 [(.slice none 0 0)] [(0, 1, (.t 53))]) false (
  .q (.nil) <|
  .s 4 (some 55) (.append 34 1 24 [(.slice none 0 0)] (.t 51) (.t 54)) true (
  .q (.nil) <|
  .s 5 none (.store 1 (.t 3) (.t 55)) true (
  .q (.nil) <|
  .fin) <|
  .no) <|
  .no) <|
  .no) <|
  .no
def Q48 : RFun := ⟨56, [0, 1, 2, 3, 4, 5, 6, 7, 8, 10, 12, 13, 14, 36, 37, 38], (.seq (.reg Q48_0) (.seq (.reg Q48_1) (.seq (.seq (.reg Q48_2) (.block 0 (.loop Q48_L15))) (.seq (.reg Q48_15) (.cond (.t 50) (.any Q48_16) .skip))))), []⟩
theorem Q48_ok : compF Try.prog [0, 1, 2, 3, 4, 5, 6, 7, 8, 10, 12, 13, 14, 36, 37, 38] [16, 18, 23, 27, 30, 32, 36, 46, 49, 50, 43, 41, 66, 69, 71, 75, 78, 83, 99, 100, 101, 107, 108, 48, 58, 81, 82, 110, 111, 112] 25 = some Q48 := by kernel_rfl

/- (lockless/litmus.memory).goes -/
def Q53_0 : Sts := .op (some 3) (.box 65 (.t 0)) <|
  .op (some 5) (.box 33 (.t 2)) <|
  .op (some 6) (.mv (.c (.slice none 0 0))) <|
  .nil
def Q53_1 : Sts := .op (some 9) (.mv (.t 1)) <|
  .op (some 10) (.faddr 3 (.t 3)) <|
  .op (some 11) (.iaddrA 3 1 (.t 10) (.t 9)) <|
  .op (some 12) (.loadI .i64 (.t 11)) <|
  .op (some 13) (.bin .add (.t 12) (.c (.int .i64 1))) <|
  .op (some 14) (.faddr 3 (.t 3)) <|
  .op (some 15) (.iaddrA 3 1 (.t 14) (.t 9)) <|
  .op none (.store 1 (.t 15) (.t 13)) <|
  .nil
def Q53_2 : Sts := .op (some 16) (.loadA 5 (.t 5)) <|
  .op (some 17) (.call 27 [(.t 16)]) <|
  .op (some 18) (.notb (.t 17)) <|
  .nil
def Q53_3 : Sts := .op (some 19) (.loadA 9 (.t 3)) <|
  .op (some 20) (.buildSl 65 1 [(.int .i64 0), (.int .i64 0), (.int .i64 0), (.int .i64 0), (.int .i64 0), (.int .i64 0), (.slice none 0 0), (.slice none 0 0), (.slice none 0 0)] [(0, 9, (.t 19))]) <|
  .op (some 6) (.mv (.t 20)) <|
  .nil
def Q53_4 : Sts := .op (some 21) (.faddr 1 (.t 5)) <|
  .op (some 22) (.loadI .i64 (.t 21)) <|
  .op (some 23) (.faddr 0 (.t 3)) <|
  .op (some 24) (.iaddrA 3 1 (.t 23) (.t 22)) <|
  .op (some 25) (.loadI .i64 (.t 24)) <|
  .op (some 7) (.mv (.t 25)) <|
  .nil
def Q53_5 : Sts := .op (some 26) (.loadA 5 (.t 5)) <|
  .op (some 27) (.call 50 [(.t 26)]) <|
  .nil
def Q53_6 : Sts := .op (some 28) (.mv (.t 1)) <|
  .op (some 29) (.mv (.t 1)) <|
  .op (some 30) (.faddr 6 (.t 3)) <|
  .op (some 31) (.iaddrA 3 1 (.t 30) (.t 29)) <|
  .op (some 32) (.loadS (.t 31)) <|
  .op (some 33) (.call 51 [(.t 32)]) <|
  .op (some 34) (.mv (.t 7)) <|
  .op (some 35) (.buildSl 3 1 [(.int .i64 0)] [(0, 1, (.t 34))]) <|
  .op (some 36) (.append 3 1 8 [(.int .i64 0)] (.t 33) (.t 35)) <|
  .op (some 37) (.faddr 6 (.t 3)) <|
  .op (some 38) (.iaddrA 3 1 (.t 37) (.t 28)) <|
  .op none (.store 1 (.t 38) (.t 36)) <|
  .nil
def Q53_7 : Sts := .op (some 39) (.loadA 9 (.t 3)) <|
  .op (some 8) (.alloc 65 [(.int .i64 0), (.int .i64 0), (.int .i64 0), (.int .i64 0), (.int .i64 0), (.int .i64 0), (.slice none 0 0), (.slice none 0 0), (.slice none 0 0)]) <|
  .op none (.store 9 (.t 8) (.t 39)) <|
  .nil
def Q53_8 : Sts := .op (some 41) (.faddr 0 (.t 5)) <|
  .op (some 42) (.loadI .i64 (.t 41)) <|
  .op (some 43) (.bin .eql (.t 42) (.c (.int .i64 1))) <|
  .op (some 40) (.mv (.t 43)) <|
  .nil
def Q53_9 : Sts := .op (some 44) (.faddr 1 (.t 5)) <|
  .op (some 45) (.loadI .i64 (.t 44)) <|
  .op (some 46) (.faddr 2 (.t 5)) <|
  .op (some 47) (.loadI .i64 (.t 46)) <|
  .op (some 48) (.faddr 0 (.t 3)) <|
  .op (some 49) (.iaddrA 3 1 (.t 48) (.t 45)) <|
  .op none (.store 1 (.t 49) (.t 47)) <|
  .nil
def Q53_10 : Sts := .op (some 51) (.faddr 0 (.t 5)) <|
  .op (some 52) (.loadI .i64 (.t 51)) <|
  .op (some 53) (.bin .eql (.t 52) (.c (.int .i64 2))) <|
  .op (some 50) (.mv (.t 53)) <|
  .nil
def Q53_11 : Sts := .op (some 54) (.faddr 1 (.t 5)) <|
  .op (some 55) (.loadI .i64 (.t 54)) <|
  .op (some 56) (.mv (.t 7)) <|
  .op (some 57) (.faddr 2 (.t 5)) <|
  .op (some 58) (.loadI .i64 (.t 57)) <|
  .op (some 59) (.bin .add (.t 56) (.t 58)) <|
  .op (some 60) (.faddr 0 (.t 3)) <|
  .op (some 61) (.iaddrA 3 1 (.t 60) (.t 55)) <|
  .op none (.store 1 (.t 61) (.t 59)) <|
  .nil
def Q53_12 : Sts := .op (some 63) (.faddr 0 (.t 5)) <|
  .op (some 64) (.loadI .i64 (.t 63)) <|
  .op (some 65) (.bin .eql (.t 64) (.c (.int .i64 3))) <|
  .op (some 66) (.mv (.t 65)) <|
  .cnd 66 false (
  .op (some 67) (.faddr 0 (.t 5)) <|
  .op (some 68) (.loadI .i64 (.t 67)) <|
  .op (some 69) (.bin .eql (.t 68) (.c (.int .i64 4))) <|
  .nil) 70 (.t 69) <|
  .op (some 71) (.mv (.t 70)) <|
  .cnd 71 true (
  .op (some 72) (.mv (.t 7)) <|
  .op (some 73) (.faddr 2 (.t 5)) <|
  .op (some 74) (.loadI .i64 (.t 73)) <|
  .op (some 75) (.bin .eql (.t 72) (.t 74)) <|
  .nil) 76 (.t 75) <|
  .op (some 62) (.mv (.t 76)) <|
  .nil
def Q53_13 : Sts := .op (some 77) (.faddr 1 (.t 5)) <|
  .op (some 78) (.loadI .i64 (.t 77)) <|
  .op (some 79) (.faddr 3 (.t 5)) <|
  .op (some 80) (.loadI .i64 (.t 79)) <|
  .op (some 81) (.faddr 0 (.t 3)) <|
  .op (some 82) (.iaddrA 3 1 (.t 81) (.t 78)) <|
  .op none (.store 1 (.t 82) (.t 80)) <|
  .nil
def Q53_14 : Sts := .op (some 83) (.faddr 0 (.t 5)) <|
  .op (some 84) (.loadI .i64 (.t 83)) <|
  .op (some 85) (.bin .eql (.t 84) (.c (.int .i64 4))) <|
  .nil
def Q53_15 : Sts := .op (some 86) (.loadA 9 (.t 8)) <|
  .op (some 87) (.loadA 9 (.t 3)) <|
  .op (some 88) (.buildSl 65 2 [(.int .i64 0), (.int .i64 0), (.int .i64 0), (.int .i64 0), (.int .i64 0), (.int .i64 0), (.slice none 0 0), (.slice none 0 0), (.slice none 0 0), (.int .i64 0), (.int .i64 0), (.int .i64 0), (.int .i64 0), (.int .i64 0), (.int .i64 0), (.slice none 0 0), (.slice none 0 0), (.slice none 0 0)] [(0, 9, (.t 86)), (9, 9, (.t 87))]) <|
  .op (some 6) (.mv (.t 88)) <|
  .nil
def Q53_16 : Sts := .op (some 89) (.loadA 9 (.t 3)) <|
  .op (some 90) (.buildSl 65 1 [(.int .i64 0), (.int .i64 0), (.int .i64 0), (.int .i64 0), (.int .i64 0), (.int .i64 0), (.slice none 0 0), (.slice none 0 0), (.slice none 0 0)] [(0, 9, (.t 89))]) <|
  .op (some 6) (.mv (.t 90)) <|
  .nil
def Q53 : RFun := ⟨91, [0, 1, 2, 3, 5, 6, 7, 8], (.seq (.reg Q53_0) (.seq (.reg Q53_1) (.seq (.seq (.reg Q53_2) (.cond (.t 18) (.seq (.reg Q53_3) .ret) .skip)) (.seq (.reg Q53_4) (.seq (.seq (.reg Q53_5) (.cond (.t 27) (.reg Q53_6) .skip)) (.seq (.reg Q53_7) (.seq (.block 0 (.seq (.reg Q53_8) (.cond (.t 40) (.reg Q53_9) (.seq (.reg Q53_10) (.cond (.t 50) (.reg Q53_11) (.seq (.reg Q53_12) (.cond (.t 62) (.seq (.reg Q53_13) (.seq (.reg Q53_14) (.cond (.t 85) (.seq (.reg Q53_15) .ret) .skip))) .skip))))))) (.seq (.reg Q53_16) .ret)))))))), [.tmp 6]⟩
theorem Q53_ok : compF Try.prog [0, 1, 2, 3, 5, 6, 7, 8] [16, 18, 23, 27, 30, 32, 36, 46, 49, 50, 43, 41, 66, 69, 71, 75, 78, 83, 99, 100, 101, 107, 108, 48, 58, 81, 82, 110, 111, 112] 26 = some Q53 := by kernel_rfl

/- lockless/litmus.access -/
def Q49_0 : Sts := .op (some 1) (.box 33 (.t 0)) <|
  .op (some 2) (.mv (.c (.bool false))) <|
  .nil
def Q49_1 : Sts := .op (some 3) (.faddr 0 (.t 1)) <|
  .op (some 4) (.loadI .i64 (.t 3)) <|
  .op (some 5) (.bin .geq (.t 4) (.c (.int .i64 0))) <|
  .op (some 6) (.mv (.t 5)) <|
  .cnd 6 true (
  .op (some 7) (.faddr 0 (.t 1)) <|
  .op (some 8) (.loadI .i64 (.t 7)) <|
  .op (some 9) (.bin .leq (.t 8) (.c (.int .i64 4))) <|
  .nil) 10 (.t 9) <|
  .op (some 2) (.mv (.t 10)) <|
  .nil
def Q49 : RFun := ⟨11, [0, 1, 2], (.seq (.reg Q49_0) (.seq (.reg Q49_1) .ret)), [.tmp 2]⟩
theorem Q49_ok : compF Try.prog [0, 1, 2] [16, 18, 23, 27, 30, 32, 36, 46, 49, 50, 43, 41, 66, 69, 71, 75, 78, 83, 99, 100, 101, 107, 108, 48, 58, 81, 82, 110, 111, 112] 27 = some Q49 := by kernel_rfl

/- (lockless/litmus.memory).outcome -/
def Q54_0 : Sts := .op (some 1) (.box 65 (.t 0)) <|
  .op (some 2) (.mv (.c (.slice none 0 0))) <|
  .nil
def Q54_1 : AT := .q (.op 0 (some 3) (.faddr 6 (.t 1)) <|
  .op 1 (some 4) (.slA 3 1 (.t 3) none none) <|
  .op 3 (some 6) (.faddr 0 (.t 1)) <|
  .op 4 (some 7) (.slA 3 1 (.t 6) none none) <|
  .nil) <|
  .s 2 (some 5) (.call 52 [(.t 4)]) false (
  .q (.nil) <|
  .s 5 (some 8) (.append 3 1 8 [(.int .i64 0)] (.t 5) (.t 7)) true (
  .q (.op 6 (some 2) (.mv (.t 8)) <|
  .nil) <|
  .fin) <|
  .no) <|
  .no
def Q54 : RFun := ⟨9, [0, 1, 2], (.seq (.reg Q54_0) (.seq (.any Q54_1) .ret)), [.tmp 2]⟩
theorem Q54_ok : compF Try.prog [0, 1, 2] [16, 18, 23, 27, 30, 32, 36, 46, 49, 50, 43, 41, 66, 69, 71, 75, 78, 83, 99, 100, 101, 107, 108, 48, 58, 81, 82, 110, 111, 112] 28 = some Q54 := by kernel_rfl

/- slices.SortFunc[[][]int,[]int] -/
def Q92_0 : Sts := .op (some 5) (.mv (.t 0)) <|
  .op (some 6) (.len (.t 5)) <|
  .op (some 4) (.mv (.t 6)) <|
  .nil
def Q92_1 : Sts := .op (some 7) (.mv (.t 0)) <|
  .op (some 8) (.mv (.t 4)) <|
  .op (some 9) (.mv (.t 4)) <|
  .op (some 10) (.conv .u64 (.t 9)) <|
  .op (some 11) (.call 54 [(.t 10)]) <|
  .op (some 12) (.mv (.t 1)) <|
  .op (some 13) (.call 53 [(.t 7), (.c (.int .i64 0)), (.t 8), (.t 11), (.t 12)]) <|
  .nil
def Q92 : RFun := ⟨14, [0, 1, 4], (.seq (.reg Q92_0) (.reg Q92_1)), []⟩
theorem Q92_ok : compF Try.prog [0, 1, 4] [16, 18, 23, 27, 30, 32, 36, 46, 49, 50, 43, 41, 66, 69, 71, 75, 78, 83, 99, 100, 101, 107, 108, 48, 58, 81, 82, 110, 111, 112] 29 = some Q92 := by kernel_rfl

/- slices.Compare[[]int,int] -/
def Q84_0 : Sts := .op (some 4) (.mv (.c (.int .i64 0))) <|
  .nil
def Q84_1 : Sts := .op (some 9) (.mv (.t 0)) <|
  .op (some 10) (.len (.t 9)) <|
  .op (some 11) (.mv (.c (.int .i64 0))) <|
  .nil
def Q84_2 : Sts := .op (some 12) (.bin .lss (.t 11) (.t 10)) <|
  .nil
def Q84_3 : Sts := .op (some 13) (.mv (.t 11)) <|
  .op (some 14) (.iaddrS 1 (.t 9) (.t 11)) <|
  .op (some 15) (.loadI .i64 (.t 14)) <|
  .op (some 5) (.mv (.t 13)) <|
  .op (some 6) (.mv (.t 15)) <|
  .nil
def Q84_4 : Sts := .op (some 16) (.mv (.t 5)) <|
  .op (some 17) (.mv (.t 1)) <|
  .op (some 18) (.len (.t 17)) <|
  .op (some 19) (.bin .geq (.t 16) (.t 18)) <|
  .nil
def Q84_5 : Sts := .op (some 4) (.mv (.c (.int .i64 1))) <|
  .nil
def Q84_6 : Sts := .op (some 20) (.mv (.t 1)) <|
  .op (some 21) (.mv (.t 5)) <|
  .op (some 22) (.iaddrS 1 (.t 20) (.t 21)) <|
  .op (some 23) (.loadI .i64 (.t 22)) <|
  .op (some 7) (.mv (.t 23)) <|
  .nil
def Q84_7 : Sts := .op (some 24) (.mv (.t 6)) <|
  .op (some 25) (.mv (.t 7)) <|
  .op (some 26) (.call 55 [(.t 24), (.t 25)]) <|
  .op (some 8) (.mv (.t 26)) <|
  .nil
def Q84_8 : Sts := .op (some 27) (.mv (.t 8)) <|
  .op (some 28) (.bin .neq (.t 27) (.c (.int .i64 0))) <|
  .nil
def Q84_9 : Sts := .op (some 29) (.mv (.t 8)) <|
  .op (some 4) (.mv (.t 29)) <|
  .nil
def Q84_10 : Sts := .op (some 30) (.bin .add (.t 11) (.c (.int .i64 1))) <|
  .op (some 11) (.mv (.t 30)) <|
  .nil
def Q84_L11 : RCode := (.seq (.reg Q84_2) (.seq (.cond (.t 12) .skip (.exit 0)) (.seq (.block 1 (.seq (.reg Q84_3) (.seq (.seq (.reg Q84_4) (.cond (.t 19) (.seq (.reg Q84_5) .ret) .skip)) (.seq (.reg Q84_6) (.seq (.reg Q84_7) (.seq (.reg Q84_8) (.cond (.t 28) (.seq (.reg Q84_9) .ret) .skip))))))) (.reg Q84_10))))
def Q84_11 : Sts := .op (some 31) (.mv (.t 0)) <|
  .op (some 32) (.len (.t 31)) <|
  .op (some 33) (.mv (.t 1)) <|
  .op (some 34) (.len (.t 33)) <|
  .op (some 35) (.bin .lss (.t 32) (.t 34)) <|
  .nil
def Q84_12 : Sts := .op (some 4) (.mv (.c (.int .i64 (-1)))) <|
  .nil
def Q84_13 : Sts := .op (some 4) (.mv (.c (.int .i64 0))) <|
  .nil
def Q84 : RFun := ⟨36, [0, 1, 4, 5, 6, 7, 8, 9, 10, 11], (.seq (.reg Q84_0) (.seq (.seq (.reg Q84_1) (.block 0 (.loop Q84_L11))) (.seq (.seq (.reg Q84_11) (.cond (.t 35) (.seq (.reg Q84_12) .ret) .skip)) (.seq (.reg Q84_13) .ret)))), [.tmp 4]⟩
theorem Q84_ok : compF Try.prog [0, 1, 4, 5, 6, 7, 8, 9, 10, 11] [16, 18, 23, 27, 30, 32, 36, 46, 49, 50, 43, 41, 66, 69, 71, 75, 78, 83, 99, 100, 101, 107, 108, 48, 58, 81, 82, 110, 111, 112] 30 = some Q84 := by kernel_rfl

/- slices.CompactFunc[[][]int,[]int] -/
def Q83_0 : Sts := .op (some 4) (.mv (.c (.slice none 0 0))) <|
  .nil
def Q83_1 : Sts := .op (some 8) (.mv (.t 0)) <|
  .op (some 9) (.len (.t 8)) <|
  .op (some 10) (.bin .lss (.t 9) (.c (.int .i64 2))) <|
  .nil
def Q83_2 : Sts := .op (some 11) (.mv (.t 0)) <|
  .op (some 4) (.mv (.t 11)) <|
  .nil
def Q83_3 : Sts := .op (some 5) (.mv (.c (.int .i64 1))) <|
  .nil
def Q83_4 : Sts := .op (some 12) (.mv (.t 5)) <|
  .op (some 13) (.mv (.t 0)) <|
  .op (some 14) (.len (.t 13)) <|
  .op (some 15) (.bin .lss (.t 12) (.t 14)) <|
  .nil
def Q83_5 : AT := .q (.op 0 (some 18) (.mv (.t 1)) <|
  .op 1 (some 19) (.mv (.t 0)) <|
  .op 2 (some 20) (.mv (.t 5)) <|
  .op 3 (some 21) (.iaddrS 1 (.t 19) (.t 20)) <|
  .op 4 (some 22) (.loadS (.t 21)) <|
  .op 5 (some 23) (.mv (.t 0)) <|
  .op 6 (some 24) (.mv (.t 5)) <|
  .op 7 (some 25) (.bin .sub (.t 24) (.c (.int .i64 1))) <|
  .op 8 (some 26) (.iaddrS 1 (.t 23) (.t 25)) <|
  .op 9 (some 27) (.loadS (.t 26)) <|
  .nil) <|
  .s 10 (some 28) (.callv (.t 18) [(.t 22), (.t 27)]) true (
  .q (.nil) <|
  .fin) <|
  .no
def Q83_6 : Sts := .op (some 29) (.mv (.t 0)) <|
  .op (some 30) (.mv (.t 5)) <|
  .op (some 31) (.slS 1 (.t 29) (some (.t 30)) none none) <|
  .op (some 6) (.mv (.t 31)) <|
  .nil
def Q83_7 : Sts := .op (some 7) (.mv (.c (.int .i64 1))) <|
  .nil
def Q83_8 : Sts := .op (some 32) (.mv (.t 7)) <|
  .op (some 33) (.mv (.t 6)) <|
  .op (some 34) (.len (.t 33)) <|
  .op (some 35) (.bin .lss (.t 32) (.t 34)) <|
  .nil
def Q83_9 : AT := .q (.op 0 (some 38) (.mv (.t 1)) <|
  .op 1 (some 39) (.mv (.t 6)) <|
  .op 2 (some 40) (.mv (.t 7)) <|
  .op 3 (some 41) (.iaddrS 1 (.t 39) (.t 40)) <|
  .op 4 (some 42) (.loadS (.t 41)) <|
  .op 5 (some 43) (.mv (.t 6)) <|
  .op 6 (some 44) (.mv (.t 7)) <|
  .op 7 (some 45) (.bin .sub (.t 44) (.c (.int .i64 1))) <|
  .op 8 (some 46) (.iaddrS 1 (.t 43) (.t 45)) <|
  .op 9 (some 47) (.loadS (.t 46)) <|
  .nil) <|
  .s 10 (some 48) (.callv (.t 38) [(.t 42), (.t 47)]) true (
  .q (.op 11 (some 49) (.notb (.t 48)) <|
  .nil) <|
  .fin) <|
  .no
def Q83_10 : Sts := .op (some 50) (.mv (.t 0)) <|
  .op (some 51) (.mv (.t 5)) <|
  .op (some 52) (.mv (.t 6)) <|
  .op (some 53) (.mv (.t 7)) <|
  .op (some 54) (.iaddrS 1 (.t 52) (.t 53)) <|
  .op (some 55) (.loadS (.t 54)) <|
  .op (some 56) (.iaddrS 1 (.t 50) (.t 51)) <|
  .op none (.store 1 (.t 56) (.t 55)) <|
  .nil
def Q83_11 : Sts := .op (some 57) (.mv (.t 5)) <|
  .op (some 58) (.bin .add (.t 57) (.c (.int .i64 1))) <|
  .op (some 5) (.mv (.t 58)) <|
  .nil
def Q83_12 : Sts := .op (some 36) (.mv (.t 7)) <|
  .op (some 37) (.bin .add (.t 36) (.c (.int .i64 1))) <|
  .op (some 7) (.mv (.t 37)) <|
  .nil
def Q83_L13 : RCode := (.seq (.seq (.reg Q83_8) (.cond (.t 35) .skip (.exit 2))) (.seq (.block 3 (.seq (.any Q83_9) (.cond (.t 49) (.seq (.reg Q83_10) (.reg Q83_11)) .skip))) (.reg Q83_12)))
def Q83_13 : Sts := .op (some 59) (.mv (.t 0)) <|
  .op (some 60) (.mv (.t 5)) <|
  .op (some 61) (.slS 1 (.t 59) (some (.t 60)) none none) <|
  .op none (.clearS (.slice none 0 0) (.t 61)) <|
  .nil
def Q83_14 : Sts := .op (some 62) (.mv (.t 0)) <|
  .op (some 63) (.mv (.t 5)) <|
  .op (some 64) (.slS 1 (.t 62) none (some (.t 63)) none) <|
  .op (some 4) (.mv (.t 64)) <|
  .nil
def Q83_15 : Sts := .op (some 16) (.mv (.t 5)) <|
  .op (some 17) (.bin .add (.t 16) (.c (.int .i64 1))) <|
  .op (some 5) (.mv (.t 17)) <|
  .nil
def Q83_L16 : RCode := (.seq (.seq (.reg Q83_4) (.cond (.t 15) .skip (.exit 0))) (.seq (.block 1 (.seq (.any Q83_5) (.cond (.t 28) (.seq (.reg Q83_6) (.seq (.seq (.reg Q83_7) (.block 2 (.loop Q83_L13))) (.seq (.reg Q83_13) (.seq (.reg Q83_14) .ret)))) .skip))) (.reg Q83_15)))
def Q83_16 : Sts := .op (some 65) (.mv (.t 0)) <|
  .op (some 4) (.mv (.t 65)) <|
  .nil
def Q83 : RFun := ⟨66, [0, 1, 4, 5, 6, 7], (.seq (.reg Q83_0) (.seq (.seq (.reg Q83_1) (.cond (.t 10) (.seq (.reg Q83_2) .ret) .skip)) (.seq (.seq (.reg Q83_3) (.block 0 (.loop Q83_L16))) (.seq (.reg Q83_16) .ret)))), [.tmp 4]⟩
theorem Q83_ok : compF Try.prog [0, 1, 4, 5, 6, 7] [16, 18, 23, 27, 30, 32, 36, 46, 49, 50, 43, 41, 66, 69, 71, 75, 78, 83, 99, 100, 101, 107, 108, 48, 58, 81, 82, 110, 111, 112] 31 = some Q83 := by kernel_rfl

/- slices.Equal[[]int,int] -/
def Q87_0 : Sts := .op (some 4) (.mv (.c (.bool false))) <|
  .nil
def Q87_1 : Sts := .op (some 6) (.mv (.t 0)) <|
  .op (some 7) (.len (.t 6)) <|
  .op (some 8) (.mv (.t 1)) <|
  .op (some 9) (.len (.t 8)) <|
  .op (some 10) (.bin .neq (.t 7) (.t 9)) <|
  .nil
def Q87_2 : Sts := .op (some 4) (.mv (.c (.bool false))) <|
  .nil
def Q87_3 : Sts := .op (some 11) (.mv (.t 0)) <|
  .op (some 12) (.len (.t 11)) <|
  .op (some 13) (.mv (.c (.int .i64 0))) <|
  .nil
def Q87_4 : Sts := .op (some 14) (.bin .lss (.t 13) (.t 12)) <|
  .nil
def Q87_5 : Sts := .op (some 15) (.mv (.t 13)) <|
  .op (some 5) (.mv (.t 15)) <|
  .nil
def Q87_6 : AT := .q (.op 0 (some 16) (.mv (.t 0)) <|
  .op 1 (some 17) (.mv (.t 5)) <|
  .op 2 (some 18) (.iaddrS 1 (.t 16) (.t 17)) <|
  .op 3 (some 19) (.loadI .i64 (.t 18)) <|
  .op 4 (some 20) (.mv (.t 1)) <|
  .op 5 (some 21) (.mv (.t 5)) <|
  .op 6 (some 22) (.iaddrS 1 (.t 20) (.t 21)) <|
  .op 7 (some 23) (.loadI .i64 (.t 22)) <|
  .op 8 (some 24) (.bin .neq (.t 19) (.t 23)) <|
  .nil) <|
  .fin
def Q87_7 : Sts := .op (some 4) (.mv (.c (.bool false))) <|
  .nil
def Q87_8 : Sts := .op (some 25) (.bin .add (.t 13) (.c (.int .i64 1))) <|
  .op (some 13) (.mv (.t 25)) <|
  .nil
def Q87_L9 : RCode := (.seq (.reg Q87_4) (.seq (.cond (.t 14) .skip (.exit 0)) (.seq (.block 1 (.seq (.reg Q87_5) (.seq (.any Q87_6) (.cond (.t 24) (.seq (.reg Q87_7) .ret) .skip)))) (.reg Q87_8))))
def Q87_9 : Sts := .op (some 4) (.mv (.c (.bool true))) <|
  .nil
def Q87 : RFun := ⟨26, [0, 1, 4, 5, 12, 13], (.seq (.reg Q87_0) (.seq (.seq (.reg Q87_1) (.cond (.t 10) (.seq (.reg Q87_2) .ret) .skip)) (.seq (.seq (.reg Q87_3) (.block 0 (.loop Q87_L9))) (.seq (.reg Q87_9) .ret)))), [.tmp 4]⟩
theorem Q87_ok : compF Try.prog [0, 1, 4, 5, 12, 13] [16, 18, 23, 27, 30, 32, 36, 46, 49, 50, 43, 41, 66, 69, 71, 75, 78, 83, 99, 100, 101, 107, 108, 48, 58, 81, 82, 110, 111, 112] 32 = some Q87 := by kernel_rfl

/- lockless/litmus.Expand -/
def Q45_0 : Sts := .op (some 1) (.box 24 (.t 0)) <|
  .op (some 2) (.alloc 24 [(.slice none 0 0)]) <|
  .op (some 3) (.mv (.c (.int .i64 0))) <|
  .nil
def Q45_1 : Sts := .op (some 5) (.loadA 1 (.t 1)) <|
  .op (some 6) (.call 24 [(.t 5)]) <|
  .op (some 4) (.mv (.t 6)) <|
  .nil
def Q45_2 : Sts := .op (some 7) (.mv (.t 4)) <|
  .op (some 8) (.bin .neq (.t 7) (.c (.int .i64 0))) <|
  .nil
def Q45_3 : Sts := .op (some 9) (.build [(.slice none 0 0)] []) <|
  .op (some 10) (.mv (.t 4)) <|
  .op none (.store 1 (.t 2) (.t 9)) <|
  .op (some 3) (.mv (.t 10)) <|
  .nil
def Q45_4 : Sts := .op (some 11) (.loadA 1 (.t 1)) <|
  .op (some 12) (.call 56 [(.t 11), (.c (.func (.func 57) #[] #[]))]) <|
  .op none (.store 1 (.t 2) (.t 12)) <|
  .op (some 3) (.mv (.c (.int .i64 0))) <|
  .nil
def Q45 : RFun := ⟨13, [0, 1, 2, 3, 4], (.seq (.reg Q45_0) (.seq (.seq (.reg Q45_1) (.seq (.reg Q45_2) (.cond (.t 8) (.seq (.reg Q45_3) .ret) .skip))) (.seq (.reg Q45_4) .ret))), [.cellA 2 1, .tmp 3]⟩
theorem Q45_ok : compF Try.prog [0, 1, 2, 3, 4] [16, 18, 23, 27, 30, 32, 36, 46, 49, 50, 43, 41, 66, 69, 71, 75, 78, 83, 99, 100, 101, 107, 108, 48, 58, 81, 82, 110, 111, 112] 33 = some Q45 := by kernel_rfl

/- (lockless/axiom.program).pick -/
def Q30_0 : Sts := .op (some 4) (.mv (.c (.slice none 0 0))) <|
  .nil
def Q30_1 : Sts := .op (some 5) (.mv (.c (.slice none 0 0))) <|
  .nil
def Q30_2 : Sts := .op (some 7) (.mv (.t 0)) <|
  .op (some 8) (.len (.t 7)) <|
  .op (some 9) (.mv (.c (.int .i64 0))) <|
  .nil
def Q30_3 : Sts := .op (some 10) (.bin .lss (.t 9) (.t 8)) <|
  .nil
def Q30_4 : Sts := .op (some 11) (.mv (.t 9)) <|
  .op (some 6) (.mv (.t 11)) <|
  .nil
def Q30_5 : Sts := .op (some 12) (.mv (.t 1)) <|
  .op (some 13) (.mv (.t 6)) <|
  .op (some 14) (.callv (.t 12) [(.t 13)]) <|
  .nil
def Q30_6 : Sts := .op (some 15) (.mv (.t 5)) <|
  .op (some 16) (.mv (.t 6)) <|
  .op (some 17) (.buildSl 3 1 [(.int .i64 0)] [(0, 1, (.t 16))]) <|
  .op (some 18) (.append 3 1 8 [(.int .i64 0)] (.t 15) (.t 17)) <|
  .op (some 5) (.mv (.t 18)) <|
  .nil
def Q30_7 : Sts := .op (some 19) (.bin .add (.t 9) (.c (.int .i64 1))) <|
  .op (some 9) (.mv (.t 19)) <|
  .nil
def Q30_L8 : RCode := (.seq (.reg Q30_3) (.seq (.cond (.t 10) .skip (.exit 0)) (.seq (.block 1 (.seq (.reg Q30_4) (.seq (.reg Q30_5) (.cond (.t 14) (.reg Q30_6) .skip)))) (.reg Q30_7))))
def Q30_8 : Sts := .op (some 20) (.mv (.t 5)) <|
  .op (some 4) (.mv (.t 20)) <|
  .nil
def Q30 : RFun := ⟨21, [0, 1, 4, 5, 6, 8, 9], (.seq (.reg Q30_0) (.seq (.reg Q30_1) (.seq (.seq (.reg Q30_2) (.block 0 (.loop Q30_L8))) (.seq (.reg Q30_8) .ret)))), [.tmp 4]⟩
theorem Q30_ok : compF Try.prog [0, 1, 4, 5, 6, 8, 9] [16, 18, 23, 27, 30, 32, 36, 46, 49, 50, 43, 41, 66, 69, 71, 75, 78, 83, 99, 100, 101, 107, 108, 48, 58, 81, 82, 110, 111, 112] 34 = some Q30 := by kernel_rfl

/- (lockless/axiom.program).executions$1 -/
def Q18_0 : Sts := .op (some 3) (.mv (.c (.bool false))) <|
  .nil
def Q18_1 : Sts := .op (some 4) (.loadS (.t 1)) <|
  .op (some 5) (.mv (.t 0)) <|
  .op (some 6) (.iaddrS 6 (.t 4) (.t 5)) <|
  .op (some 7) (.loadA 6 (.t 6)) <|
  .op (some 8) (.call 36 [(.t 7)]) <|
  .op (some 3) (.mv (.t 8)) <|
  .nil
def Q18 : RFun := ⟨9, [0, 1, 3], (.seq (.reg Q18_0) (.seq (.reg Q18_1) .ret)), [.tmp 3]⟩
theorem Q18_ok : compF Try.prog [0, 1, 3] [16, 18, 23, 27, 30, 32, 36, 46, 49, 50, 43, 41, 66, 69, 71, 75, 78, 83, 99, 100, 101, 107, 108, 48, 58, 81, 82, 110, 111, 112] 35 = some Q18 := by kernel_rfl

/- (lockless/axiom.event).strong -/
def Q7_0 : Sts := .op (some 1) (.box 76 (.t 0)) <|
  .op (some 2) (.mv (.c (.bool false))) <|
  .nil
def Q7_1 : Sts := .op (some 3) (.faddr 0 (.t 1)) <|
  .op (some 4) (.faddr 0 (.t 3)) <|
  .op (some 5) (.loadI .i64 (.t 4)) <|
  .op (some 6) (.bin .eql (.t 5) (.c (.int .i64 5))) <|
  .op (some 7) (.mv (.t 6)) <|
  .cnd 7 true (
  .op (some 8) (.faddr 0 (.t 1)) <|
  .op (some 9) (.faddr 4 (.t 8)) <|
  .op (some 10) (.loadI .i64 (.t 9)) <|
  .op (some 11) (.bin .eql (.t 10) (.c (.int .i64 4))) <|
  .nil) 12 (.t 11) <|
  .op (some 2) (.mv (.t 12)) <|
  .nil
def Q7 : RFun := ⟨13, [0, 1, 2], (.seq (.reg Q7_0) (.seq (.reg Q7_1) .ret)), [.tmp 2]⟩
theorem Q7_ok : compF Try.prog [0, 1, 2] [16, 18, 23, 27, 30, 32, 36, 46, 49, 50, 43, 41, 66, 69, 71, 75, 78, 83, 99, 100, 101, 107, 108, 48, 58, 81, 82, 110, 111, 112] 36 = some Q7 := by kernel_rfl

/- (lockless/axiom.program).executions$2 -/
def Q19_0 : Sts := .op (some 3) (.box 79 (.t 0)) <|
  .nil
def Q19_1 : Sts := .op (some 8) (.loadS (.t 1)) <|
  .op (some 9) (.call 38 [(.t 8)]) <|
  .nil
def Q19_2 : Sts := .op (some 4) (.alloc 55 [(.slice none 0 0)]) <|
  .op none (.store 1 (.t 4) (.t 10)) <|
  .nil
def Q19_3 : Sts := .op (some 11) (.loadS (.t 1)) <|
  .op (some 12) (.loadS (.t 4)) <|
  .op (some 13) (.call 39 [(.t 11), (.t 12), (.c (.int .i64 0))]) <|
  .nil
def Q19_4 : Sts := .op (some 5) (.alloc 26 [(.slice none 0 0)]) <|
  .op none (.store 1 (.t 5) (.t 14)) <|
  .nil
def Q19_5 : Sts := .op (some 15) (.loadS (.t 1)) <|
  .op (some 16) (.loadS (.t 4)) <|
  .op (some 17) (.loadS (.t 5)) <|
  .op (some 18) (.call 40 [(.t 15), (.t 16), (.t 17)]) <|
  .nil
def Q19_6 : Sts := .op (some 6) (.mv (.t 19)) <|
  .nil
def Q19_7 : Sts := .op (some 20) (.mv (.t 6)) <|
  .op (some 21) (.loadS (.t 4)) <|
  .op (some 22) (.loadS (.t 5)) <|
  .op (some 23) (.build [(.slice none 0 0), (.slice none 0 0), (.slice none 0 0), (.slice none 0 0)] [(0, 1, (.t 20)), (1, 1, (.t 21)), (2, 1, (.t 22))]) <|
  .op (some 7) (.alloc 57 [(.slice none 0 0), (.slice none 0 0), (.slice none 0 0), (.slice none 0 0)]) <|
  .op none (.store 4 (.t 7) (.t 23)) <|
  .nil
def Q19_8 : Sts := .op (some 24) (.loadS (.t 1)) <|
  .op (some 25) (.loadA 4 (.t 7)) <|
  .op (some 26) (.call 41 [(.t 24), (.t 25)]) <|
  .op (some 27) (.notb (.t 26)) <|
  .nil
def Q19_9 : Sts := .op (some 28) (.loadS (.t 1)) <|
  .op (some 29) (.loadS (.t 2)) <|
  .op (some 30) (.call 42 [(.t 28), (.t 29)]) <|
  .nil
def Q19_10 : Sts := .op (some 32) (.faddr 3 (.t 7)) <|
  .op none (.store 1 (.t 32) (.t 31)) <|
  .nil
def Q19_11 : AT := .q (.op 0 (some 33) (.loadS (.t 1)) <|
  .op 1 (some 34) (.loadA 4 (.t 7)) <|
  .op 2 (some 35) (.call 43 [(.t 33), (.t 34)]) <|
  .op 3 (some 36) (.bin .eql (.t 35) (.c (.int .i64 0))) <|
  .op 4 (some 37) (.mv (.t 36)) <|
  .nil) <|
  .br 37 (
  .q (.nil) <|
  .q (.op 5 (some 38) (.loadX (.t 3)) <|
  .nil) <|
  .q (.nil) <|
  .q (.op 6 (some 39) (.loadA 4 (.t 7)) <|
  .nil) <|
  .q (.nil) <|
  .s 7 (some 40) (.call 44 [(.t 39)]) false (
  .q (.nil) <|
  .s 8 (some 41) (.callv (.t 38) [(.t 40)]) true (
  .q (.g 37 true (
  .op 9 (some 42) (.notb (.t 41)) <|
  .nil) 10 43 (.t 42) <|
  .nil) <|
  .fin) <|
  .no) <|
  .no) <|
  .q (.nil) <|
  .sk 5 (some 38) <|
  .q (.nil) <|
  .sk 6 (some 39) <|
  .q (.nil) <|
  .sk 7 (some 40) <|
  .q (.nil) <|
  .sk 8 (some 41) <|
  .q (.g 37 true (
  .op 9 (some 42) (.notb (.t 41)) <|
  .nil) 10 43 (.t 42) <|
  .nil) <|
  .fin
def R_axiom_program_executions_S2_A12 : RCode := (.reg Q19_10)
def R_axiom_program_executions_S2_B12 : RCode := (.block 7 (.seq (.any Q19_11) (.cond (.t 43) .ret .skip)))
def R_axiom_program_executions_S2_A13 : RCode := (.reg Q19_6)
def R_axiom_program_executions_S2_B13 : RCode := (.block 5 (.seq (.reg Q19_7) (.seq (.seq (.reg Q19_8) (.cond (.t 27) (.exit 5) .skip)) (.seq (.reg Q19_9) (.block 6 (.rangeF (.t 30) [31] R_axiom_program_executions_S2_A12 R_axiom_program_executions_S2_B12))))))
def R_axiom_program_executions_S2_A14 : RCode := (.reg Q19_4)
def R_axiom_program_executions_S2_B14 : RCode := (.block 3 (.seq (.reg Q19_5) (.block 4 (.rangeF (.t 18) [19] R_axiom_program_executions_S2_A13 R_axiom_program_executions_S2_B13))))
def R_axiom_program_executions_S2_A15 : RCode := (.reg Q19_2)
def R_axiom_program_executions_S2_B15 : RCode := (.block 1 (.seq (.reg Q19_3) (.block 2 (.rangeF (.t 13) [14] R_axiom_program_executions_S2_A14 R_axiom_program_executions_S2_B14))))
def Q19 : RFun := ⟨44, [0, 1, 2, 3, 4, 5, 6, 7, 9, 10, 13, 14, 18, 19, 30, 31], (.seq (.reg Q19_0) (.seq (.reg Q19_1) (.block 0 (.rangeF (.t 9) [10] R_axiom_program_executions_S2_A15 R_axiom_program_executions_S2_B15)))), []⟩
theorem Q19_ok : compF Try.prog [0, 1, 2, 3, 4, 5, 6, 7, 9, 10, 13, 14, 18, 19, 30, 31] [16, 18, 23, 27, 30, 32, 36, 46, 49, 50, 43, 41, 66, 69, 71, 75, 78, 83, 99, 100, 101, 107, 108, 48, 58, 81, 82, 110, 111, 112] 37 = some Q19 := by kernel_rfl

/- (lockless/axiom.program).dones -/
def Q12_0 : Sts := .op (some 1) (.box 49 (.t 0)) <|
  .op (some 2) (.mv (.c .nilFunc)) <|
  .nil
def Q12_1 : Sts := .op (some 3) (.mkfn 60 [] [(.t 1)]) <|
  .op (some 2) (.mv (.t 3)) <|
  .nil
def Q12 : RFun := ⟨4, [0, 1, 2], (.seq (.reg Q12_0) (.seq (.reg Q12_1) .ret)), [.tmp 2]⟩
theorem Q12_ok : compF Try.prog [0, 1, 2] [16, 18, 23, 27, 30, 32, 36, 46, 49, 50, 43, 41, 66, 69, 71, 75, 78, 83, 99, 100, 101, 107, 108, 48, 58, 81, 82, 110, 111, 112] 38 = some Q12 := by kernel_rfl

/- (lockless/axiom.program).orders -/
def Q27_0 : Sts := .op (some 3) (.box 49 (.t 0)) <|
  .op (some 4) (.box 55 (.t 1)) <|
  .op (some 5) (.box 3 (.t 2)) <|
  .op (some 6) (.mv (.c .nilFunc)) <|
  .nil
def Q27_1 : Sts := .op (some 7) (.mkfn 62 [] [(.t 5), (.t 3), (.t 4)]) <|
  .op (some 6) (.mv (.t 7)) <|
  .nil
def Q27 : RFun := ⟨8, [0, 1, 2, 3, 4, 5, 6], (.seq (.reg Q27_0) (.seq (.reg Q27_1) .ret)), [.tmp 6]⟩
theorem Q27_ok : compF Try.prog [0, 1, 2, 3, 4, 5, 6] [16, 18, 23, 27, 30, 32, 36, 46, 49, 50, 43, 41, 66, 69, 71, 75, 78, 83, 99, 100, 101, 107, 108, 48, 58, 81, 82, 110, 111, 112] 39 = some Q27 := by kernel_rfl

/- (lockless/axiom.program).froms -/
def Q20_0 : Sts := .op (some 3) (.box 49 (.t 0)) <|
  .op (some 4) (.box 55 (.t 1)) <|
  .op (some 5) (.box 26 (.t 2)) <|
  .op (some 6) (.mv (.c .nilFunc)) <|
  .nil
def Q20_1 : Sts := .op (some 7) (.mkfn 64 [] [(.t 3), (.t 5), (.t 4)]) <|
  .op (some 6) (.mv (.t 7)) <|
  .nil
def Q20 : RFun := ⟨8, [0, 1, 2, 3, 4, 5, 6], (.seq (.reg Q20_0) (.seq (.reg Q20_1) .ret)), [.tmp 6]⟩
theorem Q20_ok : compF Try.prog [0, 1, 2, 3, 4, 5, 6] [16, 18, 23, 27, 30, 32, 36, 46, 49, 50, 43, 41, 66, 69, 71, 75, 78, 83, 99, 100, 101, 107, 108, 48, 58, 81, 82, 110, 111, 112] 40 = some Q20 := by kernel_rfl

/- (lockless/axiom.program).possible -/
def Q31_0 : Sts := .op (some 3) (.box 57 (.t 1)) <|
  .op (some 4) (.mv (.c (.bool false))) <|
  .nil
def Q31_1 : Sts := .op (some 11) (.mv (.t 0)) <|
  .op (some 12) (.loadA 4 (.t 3)) <|
  .op (some 13) (.call 45 [(.t 11), (.t 12)]) <|
  .op (some 10) (.mv (.t 13)) <|
  .op (some 14) (.extract 0 (.t 10)) <|
  .op (some 15) (.extract 1 (.t 10)) <|
  .op (some 16) (.extract 2 (.t 10)) <|
  .op (some 5) (.mv (.t 14)) <|
  .op (some 6) (.mv (.t 15)) <|
  .op (some 7) (.mv (.t 16)) <|
  .nil
def Q31_2 : Sts := .op (some 17) (.mv (.t 0)) <|
  .op (some 18) (.len (.t 17)) <|
  .op (some 19) (.mv (.c (.int .i64 0))) <|
  .nil
def Q31_3 : Sts := .op (some 20) (.bin .lss (.t 19) (.t 18)) <|
  .nil
def Q31_4 : Sts := .op (some 21) (.mv (.t 19)) <|
  .op (some 22) (.iaddrS 6 (.t 17) (.t 19)) <|
  .op (some 23) (.loadA 6 (.t 22)) <|
  .op (some 9) (.alloc 76 [(.int .i64 0), (.int .i64 0), (.int .i64 0), (.int .i64 0), (.int .i64 0), (.int .i64 0)]) <|
  .op (some 8) (.mv (.t 21)) <|
  .op none (.store 6 (.t 9) (.t 23)) <|
  .nil
def Q31_5 : AT := .q (.op 0 (some 24) (.faddr 0 (.t 9)) <|
  .op 1 (some 25) (.faddr 0 (.t 24)) <|
  .op 2 (some 26) (.loadI .i64 (.t 25)) <|
  .op 3 (some 27) (.bin .eql (.t 26) (.c (.int .i64 3))) <|
  .op 4 (some 28) (.mv (.t 27)) <|
  .g 28 true (
  .op 5 (some 29) (.faddr 1 (.t 3)) <|
  .op 6 (some 30) (.loadS (.t 29)) <|
  .op 7 (some 31) (.mv (.t 8)) <|
  .op 8 (some 32) (.iaddrS 1 (.t 30) (.t 31)) <|
  .op 9 (some 33) (.loadB (.t 32)) <|
  .op 10 (some 34) (.mv (.t 5)) <|
  .op 11 (some 35) (.mv (.t 8)) <|
  .op 12 (some 36) (.iaddrS 1 (.t 34) (.t 35)) <|
  .op 13 (some 37) (.loadI .i64 (.t 36)) <|
  .op 14 (some 38) (.faddr 0 (.t 9)) <|
  .op 15 (some 39) (.faddr 2 (.t 38)) <|
  .op 16 (some 40) (.loadI .i64 (.t 39)) <|
  .op 17 (some 41) (.bin .eql (.t 37) (.t 40)) <|
  .op 18 (some 42) (.eqb true (.t 33) (.t 41)) <|
  .nil) 19 43 (.t 42) <|
  .op 20 (some 44) (.mv (.t 43)) <|
  .g 44 false (
  .op 21 (some 45) (.faddr 0 (.t 9)) <|
  .op 22 (some 46) (.faddr 0 (.t 45)) <|
  .op 23 (some 47) (.loadI .i64 (.t 46)) <|
  .op 24 (some 48) (.bin .eql (.t 47) (.c (.int .i64 4))) <|
  .op 25 (some 49) (.mv (.t 48)) <|
  .g 49 true (
  .op 26 (some 50) (.faddr 1 (.t 3)) <|
  .op 27 (some 51) (.loadS (.t 50)) <|
  .op 28 (some 52) (.mv (.t 8)) <|
  .op 29 (some 53) (.iaddrS 1 (.t 51) (.t 52)) <|
  .op 30 (some 54) (.loadB (.t 53)) <|
  .nil) 31 55 (.t 54) <|
  .op 32 (some 56) (.mv (.t 55)) <|
  .g 56 true (
  .op 33 (some 57) (.mv (.t 5)) <|
  .op 34 (some 58) (.mv (.t 8)) <|
  .op 35 (some 59) (.iaddrS 1 (.t 57) (.t 58)) <|
  .op 36 (some 60) (.loadI .i64 (.t 59)) <|
  .op 37 (some 61) (.faddr 0 (.t 9)) <|
  .op 38 (some 62) (.faddr 2 (.t 61)) <|
  .op 39 (some 63) (.loadI .i64 (.t 62)) <|
  .op 40 (some 64) (.bin .neq (.t 60) (.t 63)) <|
  .nil) 41 65 (.t 64) <|
  .nil) 42 66 (.t 65) <|
  .nil) <|
  .fin
def Q31_6 : Sts := .op (some 4) (.mv (.c (.bool false))) <|
  .nil
def Q31_7 : Sts := .op (some 67) (.bin .add (.t 19) (.c (.int .i64 1))) <|
  .op (some 19) (.mv (.t 67)) <|
  .nil
def Q31_L8 : RCode := (.seq (.reg Q31_3) (.seq (.cond (.t 20) .skip (.exit 0)) (.seq (.block 1 (.seq (.reg Q31_4) (.seq (.any Q31_5) (.cond (.t 66) (.seq (.reg Q31_6) .ret) .skip)))) (.reg Q31_7))))
def Q31_8 : Sts := .op (some 68) (.mv (.t 0)) <|
  .op (some 69) (.loadA 4 (.t 3)) <|
  .op (some 70) (.call 43 [(.t 68), (.t 69)]) <|
  .op (some 71) (.bin .eql (.t 70) (.c (.int .i64 0))) <|
  .op (some 4) (.mv (.t 71)) <|
  .nil
def Q31 : RFun := ⟨72, [0, 1, 3, 4, 5, 8, 9, 17, 18, 19], (.seq (.reg Q31_0) (.seq (.reg Q31_1) (.seq (.seq (.reg Q31_2) (.block 0 (.loop Q31_L8))) (.seq (.reg Q31_8) .ret)))), [.tmp 4]⟩
theorem Q31_ok : compF Try.prog [0, 1, 3, 4, 5, 8, 9, 17, 18, 19] [16, 18, 23, 27, 30, 32, 36, 46, 49, 50, 43, 41, 66, 69, 71, 75, 78, 83, 99, 100, 101, 107, 108, 48, 58, 81, 82, 110, 111, 112] 41 = some Q31 := by kernel_rfl

/- (lockless/axiom.program).merges -/
def Q23_0 : Sts := .op (some 2) (.box 49 (.t 0)) <|
  .op (some 3) (.box 34 (.t 1)) <|
  .op (some 4) (.mv (.c .nilFunc)) <|
  .nil
def Q23_1 : Sts := .op (some 5) (.mkfn 67 [] [(.t 2), (.t 3)]) <|
  .op (some 4) (.mv (.t 5)) <|
  .nil
def Q23 : RFun := ⟨6, [0, 1, 2, 3, 4], (.seq (.reg Q23_0) (.seq (.reg Q23_1) .ret)), [.tmp 4]⟩
theorem Q23_ok : compF Try.prog [0, 1, 2, 3, 4] [16, 18, 23, 27, 30, 32, 36, 46, 49, 50, 43, 41, 66, 69, 71, 75, 78, 83, 99, 100, 101, 107, 108, 48, 58, 81, 82, 110, 111, 112] 42 = some Q23 := by kernel_rfl

/- (lockless/axiom.program).broken -/
def Q10_0 : Sts := .op (some 3) (.box 57 (.t 1)) <|
  .op (some 4) (.mv (.c (.int .i64 0))) <|
  .nil
def Q10_1 : Sts := .op (some 17) (.mv (.t 0)) <|
  .op (some 18) (.loadA 4 (.t 3)) <|
  .op (some 19) (.call 72 [(.t 17), (.t 18)]) <|
  .op (some 5) (.mv (.t 19)) <|
  .nil
def Q10_2 : Sts := .op (some 20) (.faddr 0 (.t 3)) <|
  .op (some 21) (.loadS (.t 20)) <|
  .op (some 22) (.len (.t 21)) <|
  .op (some 23) (.mv (.c (.int .i64 0))) <|
  .nil
def Q10_3 : Sts := .op (some 24) (.bin .lss (.t 23) (.t 22)) <|
  .nil
def Q10_4 : Sts := .op (some 25) (.mv (.t 23)) <|
  .op (some 26) (.iaddrS 1 (.t 21) (.t 23)) <|
  .op (some 27) (.loadI .i64 (.t 26)) <|
  .op (some 6) (.mv (.t 25)) <|
  .op (some 7) (.mv (.t 27)) <|
  .nil
def Q10_5 : Sts := .op (some 28) (.mv (.t 7)) <|
  .op (some 29) (.bin .geq (.t 28) (.c (.int .i64 0))) <|
  .nil
def Q10_6 : Sts := .op (some 30) (.mv (.t 5)) <|
  .op (some 31) (.mv (.t 7)) <|
  .op (some 32) (.mv (.t 6)) <|
  .op (some 33) (.call 73 [(.t 30), (.t 31), (.t 32)]) <|
  .nil
def Q10_7 : Sts := .op (some 34) (.bin .add (.t 23) (.c (.int .i64 1))) <|
  .op (some 23) (.mv (.t 34)) <|
  .nil
def Q10_L8 : RCode := (.seq (.reg Q10_3) (.seq (.cond (.t 24) .skip (.exit 0)) (.seq (.block 1 (.seq (.reg Q10_4) (.seq (.reg Q10_5) (.cond (.t 29) (.reg Q10_6) .skip)))) (.reg Q10_7))))
def Q10_8 : Sts := .op (some 35) (.mv (.t 5)) <|
  .op (some 36) (.call 74 [(.t 35)]) <|
  .op (some 37) (.call 75 [(.t 36)]) <|
  .nil
def Q10_9 : Sts := .op (some 4) (.mv (.c (.int .i64 2))) <|
  .nil
def Q10_10 : AT := .q (.op 0 (some 38) (.mv (.t 0)) <|
  .op 1 (some 39) (.loadA 4 (.t 3)) <|
  .op 3 (some 41) (.mv (.t 0)) <|
  .op 4 (some 42) (.loadA 4 (.t 3)) <|
  .nil) <|
  .s 2 (some 40) (.call 76 [(.t 38), (.t 39)]) false (
  .q (.nil) <|
  .s 5 (some 43) (.call 77 [(.t 41), (.t 42)]) true (
  .q (.op 6 (some 8) (.mv (.t 40)) <|
  .op 7 (some 9) (.mv (.t 43)) <|
  .nil) <|
  .fin) <|
  .no) <|
  .no
def Q10_11 : Sts := .op (some 44) (.mv (.t 8)) <|
  .op (some 45) (.call 75 [(.t 44)]) <|
  .nil
def Q10_12 : Sts := .op (some 4) (.mv (.c (.int .i64 3))) <|
  .nil
def Q10_13 : Sts := .op (some 46) (.mv (.t 0)) <|
  .op (some 47) (.len (.t 46)) <|
  .op (some 48) (.mv (.c (.int .i64 0))) <|
  .nil
def Q10_14 : Sts := .op (some 49) (.bin .lss (.t 48) (.t 47)) <|
  .nil
def Q10_15 : Sts := .op (some 50) (.mv (.t 48)) <|
  .op (some 10) (.mv (.t 50)) <|
  .nil
def Q10_16 : Sts := .op (some 51) (.mv (.t 0)) <|
  .op (some 52) (.len (.t 51)) <|
  .op (some 53) (.mv (.c (.int .i64 0))) <|
  .nil
def Q10_17 : Sts := .op (some 54) (.bin .lss (.t 53) (.t 52)) <|
  .nil
def Q10_18 : Sts := .op (some 55) (.mv (.t 53)) <|
  .op (some 11) (.mv (.t 55)) <|
  .nil
def Q10_19 : Sts := .op (some 56) (.mv (.t 8)) <|
  .op (some 57) (.mv (.t 10)) <|
  .op (some 58) (.mv (.t 11)) <|
  .op (some 59) (.call 78 [(.t 56), (.t 57), (.t 58)]) <|
  .op (some 60) (.mv (.t 59)) <|
  .cnd 60 true (
  .op (some 61) (.mv (.t 9)) <|
  .op (some 62) (.mv (.t 11)) <|
  .op (some 63) (.mv (.t 10)) <|
  .op (some 64) (.call 78 [(.t 61), (.t 62), (.t 63)]) <|
  .nil) 65 (.t 64) <|
  .nil
def Q10_20 : Sts := .op (some 4) (.mv (.c (.int .i64 3))) <|
  .nil
def Q10_21 : Sts := .op (some 66) (.bin .add (.t 53) (.c (.int .i64 1))) <|
  .op (some 53) (.mv (.t 66)) <|
  .nil
def Q10_L22 : RCode := (.seq (.reg Q10_17) (.seq (.cond (.t 54) .skip (.exit 4)) (.seq (.block 5 (.seq (.reg Q10_18) (.seq (.reg Q10_19) (.cond (.t 65) (.seq (.reg Q10_20) .ret) .skip)))) (.reg Q10_21))))
def Q10_22 : Sts := .op (some 67) (.bin .add (.t 48) (.c (.int .i64 1))) <|
  .op (some 48) (.mv (.t 67)) <|
  .nil
def Q10_L23 : RCode := (.seq (.reg Q10_14) (.seq (.cond (.t 49) .skip (.exit 2)) (.seq (.block 3 (.seq (.reg Q10_15) (.seq (.reg Q10_16) (.block 4 (.loop Q10_L22))))) (.reg Q10_22))))
def Q10_23 : Sts := .op (some 68) (.faddr 2 (.t 3)) <|
  .op (some 69) (.loadS (.t 68)) <|
  .op (some 70) (.len (.t 69)) <|
  .op (some 71) (.mv (.c (.int .i64 0))) <|
  .nil
def Q10_24 : Sts := .op (some 72) (.bin .lss (.t 71) (.t 70)) <|
  .nil
def Q10_25 : Sts := .op (some 73) (.iaddrS 1 (.t 69) (.t 71)) <|
  .op (some 74) (.loadS (.t 73)) <|
  .op (some 13) (.mv (.t 74)) <|
  .nil
def Q10_26 : Sts := .op (some 14) (.mv (.c (.int .i64 (-1)))) <|
  .nil
def Q10_27 : Sts := .op (some 75) (.mv (.t 13)) <|
  .op (some 76) (.len (.t 75)) <|
  .op (some 77) (.mv (.c (.int .i64 0))) <|
  .nil
def Q10_28 : Sts := .op (some 78) (.bin .lss (.t 77) (.t 76)) <|
  .nil
def Q10_29 : Sts := .op (some 79) (.iaddrS 1 (.t 75) (.t 77)) <|
  .op (some 80) (.loadI .i64 (.t 79)) <|
  .op (some 16) (.mv (.t 80)) <|
  .nil
def Q10_30 : Sts := .op (some 81) (.mv (.t 0)) <|
  .op (some 82) (.mv (.t 16)) <|
  .op (some 83) (.iaddrS 6 (.t 81) (.t 82)) <|
  .op (some 84) (.loadA 6 (.t 83)) <|
  .op (some 85) (.call 46 [(.t 84)]) <|
  .op (some 86) (.mv (.t 85)) <|
  .cnd 86 true (
  .op (some 87) (.faddr 0 (.t 3)) <|
  .op (some 88) (.loadS (.t 87)) <|
  .op (some 89) (.mv (.t 16)) <|
  .op (some 90) (.iaddrS 1 (.t 88) (.t 89)) <|
  .op (some 91) (.loadI .i64 (.t 90)) <|
  .op (some 92) (.mv (.t 14)) <|
  .op (some 93) (.bin .neq (.t 91) (.t 92)) <|
  .nil) 94 (.t 93) <|
  .nil
def Q10_31 : Sts := .op (some 4) (.mv (.c (.int .i64 4))) <|
  .nil
def Q10_32 : Sts := .op (some 95) (.mv (.t 16)) <|
  .op (some 14) (.mv (.t 95)) <|
  .nil
def Q10_33 : Sts := .op (some 96) (.bin .add (.t 77) (.c (.int .i64 1))) <|
  .op (some 77) (.mv (.t 96)) <|
  .nil
def Q10_L34 : RCode := (.seq (.reg Q10_28) (.seq (.cond (.t 78) .skip (.exit 8)) (.seq (.block 9 (.seq (.reg Q10_29) (.seq (.seq (.reg Q10_30) (.cond (.t 94) (.seq (.reg Q10_31) .ret) .skip)) (.reg Q10_32)))) (.reg Q10_33))))
def Q10_34 : Sts := .op (some 97) (.bin .add (.t 71) (.c (.int .i64 1))) <|
  .op (some 71) (.mv (.t 97)) <|
  .nil
def Q10_L35 : RCode := (.seq (.reg Q10_24) (.seq (.cond (.t 72) .skip (.exit 6)) (.seq (.block 7 (.seq (.reg Q10_25) (.seq (.reg Q10_26) (.seq (.reg Q10_27) (.block 8 (.loop Q10_L34)))))) (.reg Q10_34))))
def Q10_35 : Sts := .op (some 4) (.mv (.c (.int .i64 0))) <|
  .nil
def Q10 : RFun := ⟨98, [0, 1, 3, 4, 5, 6, 7, 8, 9, 10, 11, 13, 14, 16, 21, 22, 23, 47, 48, 52, 53, 69, 70, 71, 75, 76, 77], (.seq (.reg Q10_0) (.seq (.reg Q10_1) (.seq (.seq (.reg Q10_2) (.block 0 (.loop Q10_L8))) (.seq (.seq (.reg Q10_8) (.cond (.t 37) (.seq (.reg Q10_9) .ret) .skip)) (.seq (.any Q10_10) (.seq (.seq (.reg Q10_11) (.cond (.t 45) (.seq (.reg Q10_12) .ret) .skip)) (.seq (.seq (.reg Q10_13) (.block 2 (.loop Q10_L23))) (.seq (.seq (.reg Q10_23) (.block 6 (.loop Q10_L35))) (.seq (.reg Q10_35) .ret))))))))), [.tmp 4]⟩
theorem Q10_ok : compF Try.prog [0, 1, 3, 4, 5, 6, 7, 8, 9, 10, 11, 13, 14, 16, 21, 22, 23, 47, 48, 52, 53, 69, 70, 71, 75, 76, 77] [16, 18, 23, 27, 30, 32, 36, 46, 49, 50, 43, 41, 66, 69, 71, 75, 78, 83, 99, 100, 101, 107, 108, 48, 58, 81, 82, 110, 111, 112] 43 = some Q10 := by kernel_rfl

/- (lockless/axiom.Execution).copy -/
def Q1_0 : Sts := .op (some 1) (.box 57 (.t 0)) <|
  .op (some 2) (.alloc 57 [(.slice none 0 0), (.slice none 0 0), (.slice none 0 0), (.slice none 0 0)]) <|
  .nil
def Q1_1 : AT := .q (.op 0 (some 6) (.faddr 0 (.t 1)) <|
  .op 1 (some 7) (.loadS (.t 6)) <|
  .op 3 (some 9) (.faddr 1 (.t 1)) <|
  .op 4 (some 10) (.loadS (.t 9)) <|
  .op 6 (some 12) (.faddr 3 (.t 1)) <|
  .op 7 (some 13) (.loadS (.t 12)) <|
  .nil) <|
  .s 2 (some 8) (.call 51 [(.t 7)]) false (
  .q (.nil) <|
  .s 5 (some 11) (.call 79 [(.t 10)]) false (
  .q (.nil) <|
  .s 8 (some 14) (.call 51 [(.t 13)]) true (
  .q (.op 9 (some 15) (.build [(.slice none 0 0), (.slice none 0 0), (.slice none 0 0), (.slice none 0 0)] [(0, 1, (.t 8)), (1, 1, (.t 11)), (3, 1, (.t 14))]) <|
  .nil) <|
  .s 10 (some 3) (.alloc 57 [(.slice none 0 0), (.slice none 0 0), (.slice none 0 0), (.slice none 0 0)]) false (
  .q (.nil) <|
  .s 11 none (.store 4 (.t 3) (.t 15)) true (
  .q (.nil) <|
  .fin) <|
  .no) <|
  .no) <|
  .s 10 (some 3) (.alloc 57 [(.slice none 0 0), (.slice none 0 0), (.slice none 0 0), (.slice none 0 0)]) false (
  .q (.nil) <|
  .s 8 (some 14) (.call 51 [(.t 13)]) false (
  .q (.op 9 (some 15) (.build [(.slice none 0 0), (.slice none 0 0), (.slice none 0 0), (.slice none 0 0)] [(0, 1, (.t 8)), (1, 1, (.t 11)), (3, 1, (.t 14))]) <|
  .nil) <|
  .s 11 none (.store 4 (.t 3) (.t 15)) true (
  .q (.nil) <|
  .fin) <|
  .no) <|
  .no) <|
  .no) <|
  .s 10 (some 3) (.alloc 57 [(.slice none 0 0), (.slice none 0 0), (.slice none 0 0), (.slice none 0 0)]) false (
  .q (.nil) <|
  .s 5 (some 11) (.call 79 [(.t 10)]) false (
  .q (.nil) <|
  .s 8 (some 14) (.call 51 [(.t 13)]) false (
  .q (.op 9 (some 15) (.build [(.slice none 0 0), (.slice none 0 0), (.slice none 0 0), (.slice none 0 0)] [(0, 1, (.t 8)), (1, 1, (.t 11)), (3, 1, (.t 14))]) <|
  .nil) <|
  .s 11 none (.store 4 (.t 3) (.t 15)) true (
  .q (.nil) <|
  .fin) <|
  .no) <|
  .no) <|
  .no) <|
  .no) <|
  .s 10 (some 3) (.alloc 57 [(.slice none 0 0), (.slice none 0 0), (.slice none 0 0), (.slice none 0 0)]) false (
  .q (.nil) <|
  .s 2 (some 8) (.call 51 [(.t 7)]) false (
  .q (.nil) <|
  .s 5 (some 11) (.call 79 [(.t 10)]) false (
  .q (.nil) <|
  .s 8 (some 14) (.call 51 [(.t 13)]) false (
  .q (.op 9 (some 15) (.build [(.slice none 0 0), (.slice none 0 0), (.slice none 0 0), (.slice none 0 0)] [(0, 1, (.t 8)), (1, 1, (.t 11)), (3, 1, (.t 14))]) <|
  .nil) <|
  .s 11 none (.store 4 (.t 3) (.t 15)) true (
  .q (.nil) <|
  .fin) <|
  .no) <|
  .no) <|
  .no) <|
  .no) <|
  .no
def Q1_2 : Sts := .op (some 16) (.faddr 2 (.t 1)) <|
  .op (some 17) (.loadS (.t 16)) <|
  .op (some 18) (.len (.t 17)) <|
  .op (some 19) (.mv (.c (.int .i64 0))) <|
  .nil
def Q1_3 : Sts := .op (some 20) (.bin .lss (.t 19) (.t 18)) <|
  .nil
def Q1_4 : Sts := .op (some 21) (.iaddrS 1 (.t 17) (.t 19)) <|
  .op (some 22) (.loadS (.t 21)) <|
  .op (some 5) (.mv (.t 22)) <|
  .nil
def Q1_5 : AT := .q (.op 0 (some 23) (.faddr 2 (.t 3)) <|
  .op 1 (some 24) (.loadS (.t 23)) <|
  .op 2 (some 25) (.mv (.t 5)) <|
  .nil) <|
  .s 3 (some 26) (.call 51 [(.t 25)]) false (
  .q (.nil) <|
  .s 4 (some 27) (.buildSl 34 1 [(.slice none 0 0)] [(0, 1, (.t 26))]) false (
  .q (.nil) <|
  .s 5 (some 28) (.append 34 1 24 [(.slice none 0 0)] (.t 24) (.t 27)) true (
  .q (.op 6 (some 29) (.faddr 2 (.t 3)) <|
  .nil) <|
  .s 7 none (.store 1 (.t 29) (.t 28)) true (
  .q (.nil) <|
  .fin) <|
  .no) <|
  .no) <|
  .no) <|
  .no
def Q1_6 : Sts := .op (some 30) (.bin .add (.t 19) (.c (.int .i64 1))) <|
  .op (some 19) (.mv (.t 30)) <|
  .nil
def Q1_L7 : RCode := (.seq (.reg Q1_3) (.seq (.cond (.t 20) .skip (.exit 0)) (.seq (.block 1 (.seq (.reg Q1_4) (.any Q1_5))) (.reg Q1_6))))
def Q1_7 : Sts := .op (some 31) (.loadA 4 (.t 3)) <|
  .op none (.store 4 (.t 2) (.t 31)) <|
  .nil
def Q1 : RFun := ⟨32, [0, 1, 2, 3, 5, 17, 18, 19], (.seq (.reg Q1_0) (.seq (.any Q1_1) (.seq (.seq (.reg Q1_2) (.block 0 (.loop Q1_L7))) (.seq (.reg Q1_7) .ret)))), [.cellA 2 4]⟩
theorem Q1_ok : compF Try.prog [0, 1, 2, 3, 5, 17, 18, 19] [16, 18, 23, 27, 30, 32, 36, 46, 49, 50, 43, 41, 66, 69, 71, 75, 78, 83, 99, 100, 101, 107, 108, 48, 58, 81, 82, 110, 111, 112] 44 = some Q1 := by kernel_rfl

/- (lockless/axiom.program).words -/
def Q35_0 : Sts := .op (some 3) (.box 57 (.t 1)) <|
  .op (some 4) (.mv (.c (.slice none 0 0))) <|
  .op (some 5) (.mv (.c (.slice none 0 0))) <|
  .op (some 6) (.mv (.c (.slice none 0 0))) <|
  .nil
def Q35_1 : AT := .q (.op 0 (some 11) (.mv (.t 0)) <|
  .op 1 (some 12) (.len (.t 11)) <|
  .op 3 (some 14) (.mv (.t 0)) <|
  .op 4 (some 15) (.len (.t 14)) <|
  .op 6 (some 17) (.mv (.t 0)) <|
  .op 7 (some 18) (.len (.t 17)) <|
  .nil) <|
  .s 2 (some 13) (.makeSl 3 1 8 [(.int .i64 0)] (.t 12) (.t 12)) false (
  .q (.op 9 (some 4) (.mv (.t 13)) <|
  .nil) <|
  .s 5 (some 16) (.makeSl 3 1 8 [(.int .i64 0)] (.t 15) (.t 15)) false (
  .q (.op 10 (some 5) (.mv (.t 16)) <|
  .nil) <|
  .s 8 (some 19) (.makeSl 4 1 1 [(.bool false)] (.t 18) (.t 18)) false (
  .q (.op 11 (some 6) (.mv (.t 19)) <|
  .nil) <|
  .fin) <|
  .no) <|
  .s 8 (some 19) (.makeSl 4 1 1 [(.bool false)] (.t 18) (.t 18)) false (
  .q (.nil) <|
  .s 5 (some 16) (.makeSl 3 1 8 [(.int .i64 0)] (.t 15) (.t 15)) false (
  .q (.op 10 (some 5) (.mv (.t 16)) <|
  .op 11 (some 6) (.mv (.t 19)) <|
  .nil) <|
  .fin) <|
  .no) <|
  .no) <|
  .s 5 (some 16) (.makeSl 3 1 8 [(.int .i64 0)] (.t 15) (.t 15)) false (
  .q (.nil) <|
  .s 2 (some 13) (.makeSl 3 1 8 [(.int .i64 0)] (.t 12) (.t 12)) false (
  .q (.op 9 (some 4) (.mv (.t 13)) <|
  .op 10 (some 5) (.mv (.t 16)) <|
  .nil) <|
  .s 8 (some 19) (.makeSl 4 1 1 [(.bool false)] (.t 18) (.t 18)) false (
  .q (.op 11 (some 6) (.mv (.t 19)) <|
  .nil) <|
  .fin) <|
  .no) <|
  .s 8 (some 19) (.makeSl 4 1 1 [(.bool false)] (.t 18) (.t 18)) false (
  .q (.nil) <|
  .s 2 (some 13) (.makeSl 3 1 8 [(.int .i64 0)] (.t 12) (.t 12)) false (
  .q (.op 9 (some 4) (.mv (.t 13)) <|
  .op 10 (some 5) (.mv (.t 16)) <|
  .op 11 (some 6) (.mv (.t 19)) <|
  .nil) <|
  .fin) <|
  .no) <|
  .no) <|
  .s 8 (some 19) (.makeSl 4 1 1 [(.bool false)] (.t 18) (.t 18)) false (
  .q (.nil) <|
  .s 2 (some 13) (.makeSl 3 1 8 [(.int .i64 0)] (.t 12) (.t 12)) false (
  .q (.op 9 (some 4) (.mv (.t 13)) <|
  .nil) <|
  .s 5 (some 16) (.makeSl 3 1 8 [(.int .i64 0)] (.t 15) (.t 15)) false (
  .q (.op 10 (some 5) (.mv (.t 16)) <|
  .op 11 (some 6) (.mv (.t 19)) <|
  .nil) <|
  .fin) <|
  .no) <|
  .s 5 (some 16) (.makeSl 3 1 8 [(.int .i64 0)] (.t 15) (.t 15)) false (
  .q (.nil) <|
  .s 2 (some 13) (.makeSl 3 1 8 [(.int .i64 0)] (.t 12) (.t 12)) false (
  .q (.op 9 (some 4) (.mv (.t 13)) <|
  .op 10 (some 5) (.mv (.t 16)) <|
  .op 11 (some 6) (.mv (.t 19)) <|
  .nil) <|
  .fin) <|
  .no) <|
  .no) <|
  .no
def Q35_2 : Sts := .op (some 20) (.mv (.t 0)) <|
  .op (some 21) (.len (.t 20)) <|
  .op (some 22) (.makeSl 4 1 1 [(.bool false)] (.t 21) (.t 21)) <|
  .op (some 7) (.mv (.t 22)) <|
  .nil
def Q35_3 : Sts := .op (some 23) (.mv (.t 0)) <|
  .op (some 24) (.len (.t 23)) <|
  .op (some 25) (.bin .add (.t 24) (.c (.int .i64 1))) <|
  .op (some 26) (.mv (.c (.int .i64 0))) <|
  .nil
def Q35_4 : Sts := .op (some 27) (.bin .lss (.t 26) (.t 25)) <|
  .nil
def Q35_5 : Sts := .op (some 28) (.mv (.t 0)) <|
  .op (some 29) (.len (.t 28)) <|
  .op (some 30) (.mv (.c (.int .i64 0))) <|
  .nil
def Q35_6 : Sts := .op (some 31) (.bin .lss (.t 30) (.t 29)) <|
  .nil
def Q35_7 : Sts := .op (some 32) (.mv (.t 30)) <|
  .op (some 33) (.iaddrS 6 (.t 28) (.t 30)) <|
  .op (some 34) (.loadA 6 (.t 33)) <|
  .op (some 9) (.alloc 76 [(.int .i64 0), (.int .i64 0), (.int .i64 0), (.int .i64 0), (.int .i64 0), (.int .i64 0)]) <|
  .op (some 8) (.mv (.t 32)) <|
  .op none (.store 6 (.t 9) (.t 34)) <|
  .nil
def Q35_8 : Sts := .op (some 35) (.faddr 0 (.t 3)) <|
  .op (some 36) (.loadS (.t 35)) <|
  .op (some 37) (.mv (.t 8)) <|
  .op (some 38) (.iaddrS 1 (.t 36) (.t 37)) <|
  .op (some 39) (.loadI .i64 (.t 38)) <|
  .op (some 10) (.mv (.t 39)) <|
  .nil
def Q35_9 : Sts := .op (some 41) (.loadA 6 (.t 9)) <|
  .op (some 42) (.call 46 [(.t 41)]) <|
  .op (some 43) (.mv (.t 42)) <|
  .cnd 43 true (
  .op (some 44) (.mv (.t 10)) <|
  .op (some 45) (.bin .eql (.t 44) (.c (.int .i64 (-1)))) <|
  .nil) 46 (.t 45) <|
  .op (some 40) (.mv (.t 46)) <|
  .nil
def Q35_10 : Sts := .op (some 47) (.mv (.t 6)) <|
  .op (some 48) (.mv (.t 8)) <|
  .op (some 49) (.iaddrS 1 (.t 47) (.t 48)) <|
  .op none (.store 1 (.t 49) (.c (.bool true))) <|
  .nil
def Q35_11 : Sts := .op (some 51) (.loadA 6 (.t 9)) <|
  .op (some 52) (.call 46 [(.t 51)]) <|
  .op (some 53) (.mv (.t 52)) <|
  .cnd 53 true (
  .op (some 54) (.mv (.t 7)) <|
  .op (some 55) (.mv (.t 10)) <|
  .op (some 56) (.iaddrS 1 (.t 54) (.t 55)) <|
  .op (some 57) (.loadB (.t 56)) <|
  .nil) 58 (.t 57) <|
  .op (some 50) (.mv (.t 58)) <|
  .nil
def Q35_12 : Sts := .op (some 59) (.mv (.t 4)) <|
  .op (some 60) (.mv (.t 8)) <|
  .op (some 61) (.mv (.t 6)) <|
  .op (some 62) (.mv (.t 8)) <|
  .op (some 63) (.mv (.t 5)) <|
  .op (some 64) (.mv (.t 10)) <|
  .op (some 65) (.iaddrS 1 (.t 63) (.t 64)) <|
  .op (some 66) (.loadI .i64 (.t 65)) <|
  .op (some 67) (.iaddrS 1 (.t 59) (.t 60)) <|
  .op none (.store 1 (.t 67) (.t 66)) <|
  .op (some 68) (.iaddrS 1 (.t 61) (.t 62)) <|
  .op none (.store 1 (.t 68) (.c (.bool true))) <|
  .nil
def Q35_13 : Sts := .op (some 69) (.faddr 0 (.t 9)) <|
  .op (some 70) (.faddr 0 (.t 69)) <|
  .op (some 71) (.loadI .i64 (.t 70)) <|
  .nil
def Q35_14 : Sts := .op (some 73) (.bin .eql (.t 71) (.c (.int .i64 1))) <|
  .op (some 72) (.mv (.t 73)) <|
  .nil
def Q35_15 : Sts := .op (some 74) (.mv (.t 5)) <|
  .op (some 75) (.mv (.t 8)) <|
  .op (some 76) (.mv (.t 7)) <|
  .op (some 77) (.mv (.t 8)) <|
  .op (some 78) (.faddr 0 (.t 9)) <|
  .op (some 79) (.faddr 2 (.t 78)) <|
  .op (some 80) (.loadI .i64 (.t 79)) <|
  .op (some 81) (.iaddrS 1 (.t 74) (.t 75)) <|
  .op none (.store 1 (.t 81) (.t 80)) <|
  .op (some 82) (.iaddrS 1 (.t 76) (.t 77)) <|
  .op none (.store 1 (.t 82) (.c (.bool true))) <|
  .nil
def Q35_16 : Sts := .op (some 84) (.bin .eql (.t 71) (.c (.int .i64 2))) <|
  .op (some 83) (.mv (.t 84)) <|
  .nil
def Q35_17 : AT := .q (.op 0 (some 85) (.mv (.t 5)) <|
  .op 1 (some 86) (.mv (.t 8)) <|
  .op 2 (some 87) (.mv (.t 7)) <|
  .op 3 (some 88) (.mv (.t 8)) <|
  .op 4 (some 89) (.mv (.t 4)) <|
  .op 5 (some 90) (.mv (.t 8)) <|
  .op 6 (some 91) (.iaddrS 1 (.t 89) (.t 90)) <|
  .op 7 (some 92) (.loadI .i64 (.t 91)) <|
  .op 8 (some 93) (.faddr 0 (.t 9)) <|
  .op 9 (some 94) (.faddr 2 (.t 93)) <|
  .op 10 (some 95) (.loadI .i64 (.t 94)) <|
  .op 11 (some 96) (.bin .add (.t 92) (.t 95)) <|
  .op 12 (some 97) (.mv (.t 6)) <|
  .op 13 (some 98) (.mv (.t 8)) <|
  .op 14 (some 99) (.iaddrS 1 (.t 97) (.t 98)) <|
  .op 15 (some 100) (.loadB (.t 99)) <|
  .op 16 (some 101) (.iaddrS 1 (.t 85) (.t 86)) <|
  .nil) <|
  .s 17 none (.store 1 (.t 101) (.t 96)) false (
  .q (.op 18 (some 102) (.iaddrS 1 (.t 87) (.t 88)) <|
  .nil) <|
  .s 19 none (.store 1 (.t 102) (.t 100)) true (
  .q (.nil) <|
  .fin) <|
  .no) <|
  .no
def Q35_18 : Sts := .op (some 104) (.bin .eql (.t 71) (.c (.int .i64 3))) <|
  .op (some 103) (.mv (.t 104)) <|
  .nil
def Q35_19 : Sts := .op (some 105) (.bin .eql (.t 71) (.c (.int .i64 4))) <|
  .op (some 103) (.mv (.t 105)) <|
  .nil
def Q35_20 : Sts := .op (some 106) (.mv (.t 5)) <|
  .op (some 107) (.mv (.t 8)) <|
  .op (some 108) (.mv (.t 7)) <|
  .op (some 109) (.mv (.t 8)) <|
  .op (some 110) (.faddr 0 (.t 9)) <|
  .op (some 111) (.faddr 3 (.t 110)) <|
  .op (some 112) (.loadI .i64 (.t 111)) <|
  .op (some 113) (.iaddrS 1 (.t 106) (.t 107)) <|
  .op none (.store 1 (.t 113) (.t 112)) <|
  .op (some 114) (.iaddrS 1 (.t 108) (.t 109)) <|
  .op none (.store 1 (.t 114) (.c (.bool true))) <|
  .nil
def Q35_21 : Sts := .op (some 115) (.bin .add (.t 30) (.c (.int .i64 1))) <|
  .op (some 30) (.mv (.t 115)) <|
  .nil
def Q35_L22 : RCode := (.seq (.reg Q35_6) (.seq (.cond (.t 31) .skip (.exit 2)) (.seq (.block 3 (.seq (.reg Q35_7) (.seq (.seq (.reg Q35_8) (.block 4 (.seq (.reg Q35_9) (.cond (.t 40) (.reg Q35_10) (.seq (.reg Q35_11) (.cond (.t 50) (.reg Q35_12) .skip)))))) (.seq (.reg Q35_13) (.block 5 (.seq (.reg Q35_14) (.cond (.t 72) (.reg Q35_15) (.seq (.reg Q35_16) (.cond (.t 83) (.any Q35_17) (.seq (.seq (.reg Q35_18) (.cond (.t 103) .skip (.reg Q35_19))) (.cond (.t 103) (.reg Q35_20) .skip))))))))))) (.reg Q35_21))))
def Q35_22 : Sts := .op (some 116) (.bin .add (.t 26) (.c (.int .i64 1))) <|
  .op (some 26) (.mv (.t 116)) <|
  .nil
def Q35_L23 : RCode := (.seq (.reg Q35_4) (.seq (.cond (.t 27) .skip (.exit 0)) (.seq (.block 1 (.seq (.reg Q35_5) (.block 2 (.loop Q35_L22)))) (.reg Q35_22))))
def Q35_23 : Sts := .op (some 117) (.mv (.t 4)) <|
  .op (some 118) (.mv (.t 5)) <|
  .op (some 119) (.mv (.t 6)) <|
  .op (some 4) (.mv (.t 117)) <|
  .op (some 5) (.mv (.t 118)) <|
  .op (some 6) (.mv (.t 119)) <|
  .nil
def Q35 : RFun := ⟨120, [0, 1, 3, 4, 5, 6, 7, 8, 9, 10, 25, 26, 28, 29, 30, 71], (.seq (.reg Q35_0) (.seq (.any Q35_1) (.seq (.reg Q35_2) (.seq (.seq (.reg Q35_3) (.block 0 (.loop Q35_L23))) (.seq (.reg Q35_23) .ret))))), [.tmp 4, .tmp 5, .tmp 6]⟩
theorem Q35_ok : compF Try.prog [0, 1, 3, 4, 5, 6, 7, 8, 9, 10, 25, 26, 28, 29, 30, 71] [16, 18, 23, 27, 30, 32, 36, 46, 49, 50, 43, 41, 66, 69, 71, 75, 78, 83, 99, 100, 101, 107, 108, 48, 58, 81, 82, 110, 111, 112] 45 = some Q35 := by kernel_rfl

/- (lockless/axiom.event).reads -/
def Q5_0 : Sts := .op (some 1) (.box 76 (.t 0)) <|
  .op (some 2) (.mv (.c (.bool false))) <|
  .nil
def Q5_1 : Sts := .op (some 3) (.faddr 0 (.t 1)) <|
  .op (some 4) (.faddr 0 (.t 3)) <|
  .op (some 5) (.loadI .i64 (.t 4)) <|
  .op (some 6) (.bin .neq (.t 5) (.c (.int .i64 1))) <|
  .op (some 7) (.mv (.t 6)) <|
  .cnd 7 true (
  .op (some 8) (.faddr 0 (.t 1)) <|
  .op (some 9) (.faddr 0 (.t 8)) <|
  .op (some 10) (.loadI .i64 (.t 9)) <|
  .op (some 11) (.bin .neq (.t 10) (.c (.int .i64 5))) <|
  .nil) 12 (.t 11) <|
  .op (some 2) (.mv (.t 12)) <|
  .nil
def Q5 : RFun := ⟨13, [0, 1, 2], (.seq (.reg Q5_0) (.seq (.reg Q5_1) .ret)), [.tmp 2]⟩
theorem Q5_ok : compF Try.prog [0, 1, 2] [16, 18, 23, 27, 30, 32, 36, 46, 49, 50, 43, 41, 66, 69, 71, 75, 78, 83, 99, 100, 101, 107, 108, 48, 58, 81, 82, 110, 111, 112] 46 = some Q5 := by kernel_rfl

/- lockless/litmus.limits -/
def Q52_0 : Sts := .op (some 1) (.box 24 (.t 0)) <|
  .op (some 2) (.mv (.c (.bool false))) <|
  .nil
def Q52_1 : Sts := .op (some 10) (.faddr 0 (.t 1)) <|
  .op (some 11) (.loadS (.t 10)) <|
  .op (some 12) (.len (.t 11)) <|
  .op (some 13) (.bin .gtr (.t 12) (.c (.int .i64 3))) <|
  .nil
def Q52_2 : Sts := .op (some 2) (.mv (.c (.bool false))) <|
  .nil
def Q52_3 : Sts := .op (some 3) (.mv (.c (.int .i64 0))) <|
  .op (some 4) (.mv (.c (.int .i64 0))) <|
  .nil
def Q52_4 : Sts := .op (some 5) (.alloc 62 [(.int .i64 0), (.int .i64 0), (.int .i64 0)]) <|
  .nil
def Q52_5 : Sts := .op (some 14) (.faddr 0 (.t 1)) <|
  .op (some 15) (.loadS (.t 14)) <|
  .op (some 16) (.len (.t 15)) <|
  .op (some 17) (.mv (.c (.int .i64 0))) <|
  .nil
def Q52_6 : Sts := .op (some 18) (.bin .lss (.t 17) (.t 16)) <|
  .nil
def Q52_7 : Sts := .op (some 19) (.iaddrS 1 (.t 15) (.t 17)) <|
  .op (some 20) (.loadS (.t 19)) <|
  .op (some 7) (.mv (.t 20)) <|
  .nil
def Q52_8 : Sts := .op (some 21) (.mv (.t 7)) <|
  .op (some 22) (.len (.t 21)) <|
  .op (some 23) (.mv (.c (.int .i64 0))) <|
  .nil
def Q52_9 : Sts := .op (some 24) (.bin .lss (.t 23) (.t 22)) <|
  .nil
def Q52_10 : Sts := .op (some 25) (.iaddrS 5 (.t 21) (.t 23)) <|
  .op (some 26) (.loadA 5 (.t 25)) <|
  .op (some 9) (.alloc 33 [(.int .i64 0), (.int .i64 0), (.int .i64 0), (.int .i64 0), (.int .i64 0)]) <|
  .op none (.store 5 (.t 9) (.t 26)) <|
  .nil
def Q52_11 : Sts := .op (some 28) (.faddr 0 (.t 9)) <|
  .op (some 29) (.loadI .i64 (.t 28)) <|
  .op (some 30) (.bin .eql (.t 29) (.c (.int .i64 5))) <|
  .op (some 27) (.mv (.t 30)) <|
  .nil
def Q52_12 : Sts := .op (some 31) (.mv (.t 4)) <|
  .op (some 32) (.bin .add (.t 31) (.c (.int .i64 1))) <|
  .op (some 4) (.mv (.t 32)) <|
  .nil
def Q52_13 : Sts := .op (some 34) (.loadA 5 (.t 9)) <|
  .op (some 35) (.call 27 [(.t 34)]) <|
  .op (some 33) (.mv (.t 35)) <|
  .nil
def Q52_14 : Sts := .op (some 36) (.mv (.t 3)) <|
  .op (some 37) (.bin .add (.t 36) (.c (.int .i64 1))) <|
  .op (some 3) (.mv (.t 37)) <|
  .nil
def Q52_15 : Sts := .op (some 38) (.faddr 4 (.t 9)) <|
  .op (some 39) (.loadI .i64 (.t 38)) <|
  .op (some 40) (.bin .eql (.t 39) (.c (.int .i64 4))) <|
  .nil
def Q52_16 : Sts := .op (some 41) (.mv (.t 4)) <|
  .op (some 42) (.bin .add (.t 41) (.c (.int .i64 2))) <|
  .op (some 4) (.mv (.t 42)) <|
  .nil
def Q52_17 : Sts := .op (some 43) (.faddr 0 (.t 9)) <|
  .op (some 44) (.loadI .i64 (.t 43)) <|
  .op (some 45) (.bin .neq (.t 44) (.c (.int .i64 0))) <|
  .op (some 46) (.mv (.t 45)) <|
  .cnd 46 true (
  .op (some 47) (.faddr 1 (.t 9)) <|
  .op (some 48) (.loadI .i64 (.t 47)) <|
  .op (some 49) (.bin .geq (.t 48) (.c (.int .i64 0))) <|
  .nil) 50 (.t 49) <|
  .op (some 51) (.mv (.t 50)) <|
  .cnd 51 true (
  .op (some 52) (.faddr 1 (.t 9)) <|
  .op (some 53) (.loadI .i64 (.t 52)) <|
  .op (some 54) (.bin .lss (.t 53) (.c (.int .i64 3))) <|
  .nil) 55 (.t 54) <|
  .nil
def Q52_18 : Sts := .op (some 56) (.faddr 1 (.t 9)) <|
  .op (some 57) (.loadI .i64 (.t 56)) <|
  .op (some 58) (.iaddrA 3 1 (.t 5) (.t 57)) <|
  .op (some 59) (.loadI .i64 (.t 58)) <|
  .op (some 60) (.bin .add (.t 59) (.c (.int .i64 1))) <|
  .op (some 61) (.iaddrA 3 1 (.t 5) (.t 57)) <|
  .op none (.store 1 (.t 61) (.t 60)) <|
  .nil
def Q52_19 : Sts := .op (some 62) (.bin .add (.t 23) (.c (.int .i64 1))) <|
  .op (some 23) (.mv (.t 62)) <|
  .nil
def Q52_L20 : RCode := (.seq (.reg Q52_9) (.seq (.cond (.t 24) .skip (.exit 2)) (.seq (.block 3 (.seq (.reg Q52_10) (.block 4 (.seq (.reg Q52_11) (.cond (.t 27) (.reg Q52_12) (.seq (.reg Q52_13) (.cond (.t 33) (.seq (.reg Q52_14) (.seq (.seq (.reg Q52_15) (.cond (.t 40) (.reg Q52_16) .skip)) (.seq (.reg Q52_17) (.cond (.t 55) (.reg Q52_18) .skip)))) .skip))))))) (.reg Q52_19))))
def Q52_20 : Sts := .op (some 63) (.bin .add (.t 17) (.c (.int .i64 1))) <|
  .op (some 17) (.mv (.t 63)) <|
  .nil
def Q52_L21 : RCode := (.seq (.reg Q52_6) (.seq (.cond (.t 18) .skip (.exit 0)) (.seq (.block 1 (.seq (.reg Q52_7) (.seq (.reg Q52_8) (.block 2 (.loop Q52_L20))))) (.reg Q52_20))))
def Q52_21 : Sts := .op (some 64) (.mv (.t 3)) <|
  .op (some 65) (.bin .leq (.t 64) (.c (.int .i64 6))) <|
  .op (some 66) (.mv (.t 65)) <|
  .cnd 66 true (
  .op (some 67) (.mv (.t 4)) <|
  .op (some 68) (.bin .leq (.t 67) (.c (.int .i64 8))) <|
  .nil) 69 (.t 68) <|
  .op (some 70) (.mv (.t 69)) <|
  .cnd 70 true (
  .op (some 71) (.slA 3 1 (.t 5) none none) <|
  .op (some 72) (.call 80 [(.t 71)]) <|
  .op (some 73) (.bin .leq (.t 72) (.c (.int .i64 4))) <|
  .nil) 74 (.t 73) <|
  .op (some 2) (.mv (.t 74)) <|
  .nil
def Q52 : RFun := ⟨75, [0, 1, 2, 3, 4, 5, 7, 9, 15, 16, 17, 21, 22, 23], (.seq (.reg Q52_0) (.seq (.seq (.reg Q52_1) (.cond (.t 13) (.seq (.reg Q52_2) .ret) .skip)) (.seq (.reg Q52_3) (.seq (.reg Q52_4) (.seq (.seq (.reg Q52_5) (.block 0 (.loop Q52_L21))) (.seq (.reg Q52_21) .ret)))))), [.tmp 2]⟩
theorem Q52_ok : compF Try.prog [0, 1, 2, 3, 4, 5, 7, 9, 15, 16, 17, 21, 22, 23] [16, 18, 23, 27, 30, 32, 36, 46, 49, 50, 43, 41, 66, 69, 71, 75, 78, 83, 99, 100, 101, 107, 108, 48, 58, 81, 82, 110, 111, 112] 47 = some Q52 := by kernel_rfl

/- lockless/order.May -/
def Q74_0 : Sts := .op (some 4) (.mv (.c (.bool false))) <|
  .op (some 5) (.mv (.c (.int .i64 0))) <|
  .nil
def Q74_1 : Sts := .op (some 6) (.mv (.t 0)) <|
  .op (some 7) (.bin .lss (.t 6) (.c (.int .i64 0))) <|
  .op (some 8) (.mv (.t 7)) <|
  .cnd 8 false (
  .op (some 9) (.mv (.t 0)) <|
  .op (some 10) (.bin .geq (.t 9) (.c (.int .i64 6))) <|
  .nil) 11 (.t 10) <|
  .op (some 12) (.mv (.t 11)) <|
  .cnd 12 false (
  .op (some 13) (.mv (.t 1)) <|
  .op (some 14) (.call 81 [(.t 13)]) <|
  .op (some 15) (.notb (.t 14)) <|
  .nil) 16 (.t 15) <|
  .nil
def Q74_2 : Sts := .op (some 4) (.mv (.c (.bool false))) <|
  .op (some 5) (.mv (.c (.int .i64 1))) <|
  .nil
def Q74_3 : Sts := .op (some 17) (.mv (.t 0)) <|
  .op (some 18) (.mv (.t 1)) <|
  .op (some 19) (.call 82 [(.t 17), (.t 18)]) <|
  .op (some 4) (.mv (.t 19)) <|
  .op (some 5) (.mv (.c (.int .i64 0))) <|
  .nil
def Q74 : RFun := ⟨20, [0, 1, 4, 5], (.seq (.reg Q74_0) (.seq (.seq (.reg Q74_1) (.cond (.t 16) (.seq (.reg Q74_2) .ret) .skip)) (.seq (.reg Q74_3) .ret))), [.tmp 4, .tmp 5]⟩
theorem Q74_ok : compF Try.prog [0, 1, 4, 5] [16, 18, 23, 27, 30, 32, 36, 46, 49, 50, 43, 41, 66, 69, 71, 75, 78, 83, 99, 100, 101, 107, 108, 48, 58, 81, 82, 110, 111, 112] 48 = some Q74 := by kernel_rfl

/- lockless/litmus.fits -/
def Q51_0 : Sts := .op (some 1) (.box 33 (.t 0)) <|
  .op (some 2) (.mv (.c (.bool false))) <|
  .nil
def Q51_1 : Sts := .op (some 3) (.faddr 1 (.t 1)) <|
  .op (some 4) (.loadI .i64 (.t 3)) <|
  .op (some 5) (.bin .lss (.t 4) (.c (.int .i64 0))) <|
  .op (some 6) (.mv (.t 5)) <|
  .cnd 6 false (
  .op (some 7) (.faddr 1 (.t 1)) <|
  .op (some 8) (.loadI .i64 (.t 7)) <|
  .op (some 9) (.bin .geq (.t 8) (.c (.int .i64 3))) <|
  .nil) 10 (.t 9) <|
  .nil
def Q51_2 : Sts := .op (some 2) (.mv (.c (.bool false))) <|
  .nil
def Q51_3 : Sts := .op (some 11) (.faddr 0 (.t 1)) <|
  .op (some 12) (.loadI .i64 (.t 11)) <|
  .nil
def Q51_4 : Sts := .op (some 14) (.bin .eql (.t 12) (.c (.int .i64 0))) <|
  .op (some 13) (.mv (.t 14)) <|
  .nil
def Q51_5 : Sts := .op (some 15) (.faddr 2 (.t 1)) <|
  .op (some 16) (.loadI .i64 (.t 15)) <|
  .op (some 17) (.bin .eql (.t 16) (.c (.int .i64 0))) <|
  .op (some 18) (.mv (.t 17)) <|
  .cnd 18 true (
  .op (some 19) (.faddr 3 (.t 1)) <|
  .op (some 20) (.loadI .i64 (.t 19)) <|
  .op (some 21) (.bin .eql (.t 20) (.c (.int .i64 0))) <|
  .nil) 22 (.t 21) <|
  .op (some 2) (.mv (.t 22)) <|
  .nil
def Q51_6 : Sts := .op (some 24) (.bin .eql (.t 12) (.c (.int .i64 1))) <|
  .op (some 23) (.mv (.t 24)) <|
  .nil
def Q51_7 : Sts := .op (some 25) (.faddr 2 (.t 1)) <|
  .op (some 26) (.loadI .i64 (.t 25)) <|
  .op (some 27) (.call 83 [(.t 26)]) <|
  .op (some 28) (.mv (.t 27)) <|
  .cnd 28 true (
  .op (some 29) (.faddr 3 (.t 1)) <|
  .op (some 30) (.loadI .i64 (.t 29)) <|
  .op (some 31) (.bin .eql (.t 30) (.c (.int .i64 0))) <|
  .nil) 32 (.t 31) <|
  .op (some 2) (.mv (.t 32)) <|
  .nil
def Q51_8 : Sts := .op (some 34) (.bin .eql (.t 12) (.c (.int .i64 2))) <|
  .op (some 33) (.mv (.t 34)) <|
  .nil
def Q51_9 : Sts := .op (some 35) (.faddr 2 (.t 1)) <|
  .op (some 36) (.loadI .i64 (.t 35)) <|
  .op (some 37) (.bin .geq (.t 36) (.c (.int .i64 (-9)))) <|
  .op (some 38) (.mv (.t 37)) <|
  .cnd 38 true (
  .op (some 39) (.faddr 2 (.t 1)) <|
  .op (some 40) (.loadI .i64 (.t 39)) <|
  .op (some 41) (.bin .leq (.t 40) (.c (.int .i64 9))) <|
  .nil) 42 (.t 41) <|
  .op (some 43) (.mv (.t 42)) <|
  .cnd 43 true (
  .op (some 44) (.faddr 3 (.t 1)) <|
  .op (some 45) (.loadI .i64 (.t 44)) <|
  .op (some 46) (.bin .eql (.t 45) (.c (.int .i64 0))) <|
  .nil) 47 (.t 46) <|
  .op (some 2) (.mv (.t 47)) <|
  .nil
def Q51_10 : Sts := .op (some 49) (.bin .eql (.t 12) (.c (.int .i64 3))) <|
  .op (some 48) (.mv (.t 49)) <|
  .nil
def Q51_11 : Sts := .op (some 50) (.bin .eql (.t 12) (.c (.int .i64 4))) <|
  .op (some 48) (.mv (.t 50)) <|
  .nil
def Q51_12 : Sts := .op (some 51) (.faddr 2 (.t 1)) <|
  .op (some 52) (.loadI .i64 (.t 51)) <|
  .op (some 53) (.call 83 [(.t 52)]) <|
  .op (some 54) (.mv (.t 53)) <|
  .cnd 54 true (
  .op (some 55) (.faddr 3 (.t 1)) <|
  .op (some 56) (.loadI .i64 (.t 55)) <|
  .op (some 57) (.call 83 [(.t 56)]) <|
  .nil) 58 (.t 57) <|
  .op (some 2) (.mv (.t 58)) <|
  .nil
def Q51_13 : Sts := .op (some 60) (.bin .eql (.t 12) (.c (.int .i64 5))) <|
  .op (some 59) (.mv (.t 60)) <|
  .nil
def Q51_14 : Sts := .op (some 61) (.faddr 1 (.t 1)) <|
  .op (some 62) (.loadI .i64 (.t 61)) <|
  .op (some 63) (.bin .eql (.t 62) (.c (.int .i64 0))) <|
  .op (some 64) (.mv (.t 63)) <|
  .cnd 64 true (
  .op (some 65) (.faddr 2 (.t 1)) <|
  .op (some 66) (.loadI .i64 (.t 65)) <|
  .op (some 67) (.bin .eql (.t 66) (.c (.int .i64 0))) <|
  .nil) 68 (.t 67) <|
  .op (some 69) (.mv (.t 68)) <|
  .cnd 69 true (
  .op (some 70) (.faddr 3 (.t 1)) <|
  .op (some 71) (.loadI .i64 (.t 70)) <|
  .op (some 72) (.bin .eql (.t 71) (.c (.int .i64 0))) <|
  .nil) 73 (.t 72) <|
  .op (some 2) (.mv (.t 73)) <|
  .nil
def Q51_15 : Sts := .op (some 2) (.mv (.c (.bool false))) <|
  .nil
def Q51 : RFun := ⟨74, [0, 1, 2, 12], (.seq (.reg Q51_0) (.seq (.seq (.reg Q51_1) (.cond (.t 10) (.seq (.reg Q51_2) .ret) .skip)) (.seq (.seq (.reg Q51_3) (.block 0 (.seq (.reg Q51_4) (.cond (.t 13) (.seq (.reg Q51_5) .ret) (.seq (.reg Q51_6) (.cond (.t 23) (.seq (.reg Q51_7) .ret) (.seq (.reg Q51_8) (.cond (.t 33) (.seq (.reg Q51_9) .ret) (.seq (.seq (.reg Q51_10) (.cond (.t 48) .skip (.reg Q51_11))) (.cond (.t 48) (.seq (.reg Q51_12) .ret) (.seq (.reg Q51_13) (.cond (.t 59) (.seq (.reg Q51_14) .ret) .skip)))))))))))) (.seq (.reg Q51_15) .ret)))), [.tmp 2]⟩
theorem Q51_ok : compF Try.prog [0, 1, 2, 12] [16, 18, 23, 27, 30, 32, 36, 46, 49, 50, 43, 41, 66, 69, 71, 75, 78, 83, 99, 100, 101, 107, 108, 48, 58, 81, 82, 110, 111, 112] 49 = some Q51 := by kernel_rfl

/- lockless/litmus.reads -/
def Q55_0 : Sts := .op (some 1) (.box 33 (.t 0)) <|
  .op (some 2) (.mv (.c (.bool false))) <|
  .nil
def Q55_1 : Sts := .op (some 3) (.loadA 5 (.t 1)) <|
  .op (some 4) (.call 27 [(.t 3)]) <|
  .op (some 5) (.mv (.t 4)) <|
  .cnd 5 true (
  .op (some 6) (.faddr 0 (.t 1)) <|
  .op (some 7) (.loadI .i64 (.t 6)) <|
  .op (some 8) (.bin .neq (.t 7) (.c (.int .i64 1))) <|
  .nil) 9 (.t 8) <|
  .op (some 2) (.mv (.t 9)) <|
  .nil
def Q55 : RFun := ⟨10, [0, 1, 2], (.seq (.reg Q55_0) (.seq (.reg Q55_1) .ret)), [.tmp 2]⟩
theorem Q55_ok : compF Try.prog [0, 1, 2] [16, 18, 23, 27, 30, 32, 36, 46, 49, 50, 43, 41, 66, 69, 71, 75, 78, 83, 99, 100, 101, 107, 108, 48, 58, 81, 82, 110, 111, 112] 50 = some Q55 := by kernel_rfl

/- slices.Clone[[]int,int] -/
def Q82_0 : Sts := .op (some 2) (.mv (.c (.slice none 0 0))) <|
  .nil
def Q82_1 : Sts := .op (some 3) (.mv (.t 0)) <|
  .op (some 4) (.eqS false (.t 3)) <|
  .nil
def Q82_2 : Sts := .op (some 2) (.mv (.c (.slice none 0 0))) <|
  .nil
def Q82_3 : Sts := .op (some 5) (.buildSl 3 0 [] []) <|
  .op (some 6) (.mv (.t 0)) <|
  .op (some 7) (.append 3 1 8 [(.int .i64 0)] (.t 5) (.t 6)) <|
  .op (some 2) (.mv (.t 7)) <|
  .nil
def Q82 : RFun := ⟨8, [0, 2], (.seq (.reg Q82_0) (.seq (.seq (.reg Q82_1) (.cond (.t 4) (.seq (.reg Q82_2) .ret) .skip)) (.seq (.reg Q82_3) .ret))), [.tmp 2]⟩
theorem Q82_ok : compF Try.prog [0, 2] [16, 18, 23, 27, 30, 32, 36, 46, 49, 50, 43, 41, 66, 69, 71, 75, 78, 83, 99, 100, 101, 107, 108, 48, 58, 81, 82, 110, 111, 112] 51 = some Q82 := by kernel_rfl

/- slices.Concat[[]int,int] -/
def Q85_0 : Sts := .op (some 2) (.mv (.c (.slice none 0 0))) <|
  .nil
def Q85_1 : Sts := .op (some 3) (.mv (.c (.int .i64 0))) <|
  .nil
def Q85_2 : Sts := .op (some 9) (.mv (.t 0)) <|
  .op (some 10) (.len (.t 9)) <|
  .op (some 11) (.mv (.c (.int .i64 0))) <|
  .nil
def Q85_3 : Sts := .op (some 12) (.bin .lss (.t 11) (.t 10)) <|
  .nil
def Q85_4 : Sts := .op (some 13) (.iaddrS 1 (.t 9) (.t 11)) <|
  .op (some 14) (.loadS (.t 13)) <|
  .op (some 5) (.mv (.t 14)) <|
  .nil
def Q85_5 : Sts := .op (some 15) (.mv (.t 3)) <|
  .op (some 16) (.mv (.t 5)) <|
  .op (some 17) (.len (.t 16)) <|
  .op (some 18) (.bin .add (.t 15) (.t 17)) <|
  .op (some 3) (.mv (.t 18)) <|
  .nil
def Q85_6 : Sts := .op (some 19) (.mv (.t 3)) <|
  .op (some 20) (.bin .lss (.t 19) (.c (.int .i64 0))) <|
  .nil
def Q85_7 : Sts := .op (some 21) (.bad) <|
  .op none (.bad) <|
  .nil
def Q85_8 : Sts := .op (some 22) (.bin .add (.t 11) (.c (.int .i64 1))) <|
  .op (some 11) (.mv (.t 22)) <|
  .nil
def Q85_L9 : RCode := (.seq (.reg Q85_3) (.seq (.cond (.t 12) .skip (.exit 0)) (.seq (.block 1 (.seq (.reg Q85_4) (.seq (.reg Q85_5) (.seq (.reg Q85_6) (.cond (.t 20) (.reg Q85_7) .skip))))) (.reg Q85_8))))
def Q85_9 : Sts := .op (some 23) (.mv (.t 3)) <|
  .op (some 24) (.call 84 [(.c (.slice none 0 0)), (.t 23)]) <|
  .op (some 6) (.mv (.t 24)) <|
  .nil
def Q85_10 : Sts := .op (some 25) (.mv (.t 0)) <|
  .op (some 26) (.len (.t 25)) <|
  .op (some 27) (.mv (.c (.int .i64 0))) <|
  .nil
def Q85_11 : Sts := .op (some 28) (.bin .lss (.t 27) (.t 26)) <|
  .nil
def Q85_12 : Sts := .op (some 29) (.iaddrS 1 (.t 25) (.t 27)) <|
  .op (some 30) (.loadS (.t 29)) <|
  .op (some 8) (.mv (.t 30)) <|
  .nil
def Q85_13 : Sts := .op (some 31) (.mv (.t 6)) <|
  .op (some 32) (.mv (.t 8)) <|
  .op (some 33) (.append 3 1 8 [(.int .i64 0)] (.t 31) (.t 32)) <|
  .op (some 6) (.mv (.t 33)) <|
  .nil
def Q85_14 : Sts := .op (some 34) (.bin .add (.t 27) (.c (.int .i64 1))) <|
  .op (some 27) (.mv (.t 34)) <|
  .nil
def Q85_L15 : RCode := (.seq (.reg Q85_11) (.seq (.cond (.t 28) .skip (.exit 2)) (.seq (.block 3 (.seq (.reg Q85_12) (.reg Q85_13))) (.reg Q85_14))))
def Q85_15 : Sts := .op (some 35) (.mv (.t 6)) <|
  .op (some 2) (.mv (.t 35)) <|
  .nil
def Q85 : RFun := ⟨36, [0, 2, 3, 5, 6, 8, 9, 10, 11, 25, 26, 27], (.seq (.reg Q85_0) (.seq (.reg Q85_1) (.seq (.seq (.reg Q85_2) (.block 0 (.loop Q85_L9))) (.seq (.reg Q85_9) (.seq (.seq (.reg Q85_10) (.block 2 (.loop Q85_L15))) (.seq (.reg Q85_15) .ret)))))), [.tmp 2]⟩
theorem Q85_ok : compF Try.prog [0, 2, 3, 5, 6, 8, 9, 10, 11, 25, 26, 27] [16, 18, 23, 27, 30, 32, 36, 46, 49, 50, 43, 41, 66, 69, 71, 75, 78, 83, 99, 100, 101, 107, 108, 48, 58, 81, 82, 110, 111, 112] 52 = some Q85 := by kernel_rfl

/- math/bits.Len -/
def Q72_0 : Sts := .op (some 2) (.mv (.c (.int .i64 0))) <|
  .nil
def Q72_1 : Sts := .op (some 3) (.mv (.t 0)) <|
  .op (some 4) (.conv .u32 (.t 3)) <|
  .op (some 5) (.call 93 [(.t 4)]) <|
  .op (some 2) (.mv (.t 5)) <|
  .nil
def Q72_2 : Sts := .op (some 6) (.mv (.t 0)) <|
  .op (some 7) (.call 94 [(.t 6)]) <|
  .op (some 2) (.mv (.t 7)) <|
  .nil
def Q72 : RFun := ⟨8, [0, 2], (.seq (.reg Q72_0) (.seq (.cond (.c (.bool false)) (.seq (.reg Q72_1) .ret) .skip) (.seq (.reg Q72_2) .ret))), [.tmp 2]⟩
theorem Q72_ok : compF Try.prog [0, 2] [16, 18, 23, 27, 30, 32, 36, 46, 49, 50, 43, 41, 66, 69, 71, 75, 78, 83, 99, 100, 101, 107, 108, 48, 58, 81, 82, 110, 111, 112] 54 = some Q72 := by kernel_rfl

/- cmp.Compare[int] -/
def Q42_0 : Sts := .op (some 4) (.mv (.c (.int .i64 0))) <|
  .nil
def Q42_1 : Sts := .op (some 7) (.mv (.t 0)) <|
  .op (some 8) (.call 95 [(.t 7)]) <|
  .op (some 5) (.mv (.t 8)) <|
  .nil
def Q42_2 : Sts := .op (some 9) (.mv (.t 1)) <|
  .op (some 10) (.call 95 [(.t 9)]) <|
  .op (some 6) (.mv (.t 10)) <|
  .nil
def Q42_3 : Sts := .op (some 11) (.mv (.t 5)) <|
  .nil
def Q42_4 : Sts := .op (some 12) (.mv (.t 6)) <|
  .nil
def Q42_5 : Sts := .op (some 4) (.mv (.c (.int .i64 0))) <|
  .nil
def Q42_6 : Sts := .op (some 4) (.mv (.c (.int .i64 (-1)))) <|
  .nil
def Q42_7 : Sts := .op (some 13) (.mv (.t 6)) <|
  .nil
def Q42_8 : Sts := .op (some 4) (.mv (.c (.int .i64 1))) <|
  .nil
def Q42_9 : Sts := .op (some 14) (.mv (.t 0)) <|
  .op (some 15) (.mv (.t 1)) <|
  .op (some 16) (.bin .lss (.t 14) (.t 15)) <|
  .nil
def Q42_10 : Sts := .op (some 4) (.mv (.c (.int .i64 (-1)))) <|
  .nil
def Q42_11 : Sts := .op (some 17) (.mv (.t 0)) <|
  .op (some 18) (.mv (.t 1)) <|
  .op (some 19) (.bin .gtr (.t 17) (.t 18)) <|
  .nil
def Q42_12 : Sts := .op (some 4) (.mv (.c (.int .i64 1))) <|
  .nil
def Q42_13 : Sts := .op (some 4) (.mv (.c (.int .i64 0))) <|
  .nil
def Q42 : RFun := ⟨20, [0, 1, 4, 5, 6], (.seq (.reg Q42_0) (.seq (.reg Q42_1) (.seq (.reg Q42_2) (.seq (.seq (.reg Q42_3) (.cond (.t 11) (.seq (.seq (.reg Q42_4) (.cond (.t 12) (.seq (.reg Q42_5) .ret) .skip)) (.seq (.reg Q42_6) .ret)) .skip)) (.seq (.seq (.reg Q42_7) (.cond (.t 13) (.seq (.reg Q42_8) .ret) .skip)) (.seq (.seq (.reg Q42_9) (.cond (.t 16) (.seq (.reg Q42_10) .ret) .skip)) (.seq (.seq (.reg Q42_11) (.cond (.t 19) (.seq (.reg Q42_12) .ret) .skip)) (.seq (.reg Q42_13) .ret)))))))), [.tmp 4]⟩
theorem Q42_ok : compF Try.prog [0, 1, 4, 5, 6] [16, 18, 23, 27, 30, 32, 36, 46, 49, 50, 43, 41, 66, 69, 71, 75, 78, 83, 99, 100, 101, 107, 108, 48, 58, 81, 82, 110, 111, 112] 55 = some Q42 := by kernel_rfl

/- lockless/litmus.rebuilt -/
def Q56_0 : Sts := .op (some 2) (.box 24 (.t 0)) <|
  .op (some 4) (.alloc 24 [(.slice none 0 0)]) <|
  .nil
def Q56_1 : Sts := .op (some 5) (.alloc 24 [(.slice none 0 0)]) <|
  .nil
def Q56_2 : Sts := .op (some 12) (.faddr 0 (.t 2)) <|
  .op (some 13) (.loadS (.t 12)) <|
  .op (some 14) (.len (.t 13)) <|
  .op (some 15) (.mv (.c (.int .i64 0))) <|
  .nil
def Q56_3 : Sts := .op (some 16) (.bin .lss (.t 15) (.t 14)) <|
  .nil
def Q56_4 : Sts := .op (some 17) (.iaddrS 1 (.t 13) (.t 15)) <|
  .op (some 18) (.loadS (.t 17)) <|
  .op (some 7) (.mv (.t 18)) <|
  .nil
def Q56_5 : Sts := .op (some 8) (.mv (.c (.slice none 0 0))) <|
  .nil
def Q56_6 : Sts := .op (some 9) (.mv (.c (.bool true))) <|
  .nil
def Q56_7 : Sts := .op (some 19) (.mv (.t 7)) <|
  .op (some 20) (.len (.t 19)) <|
  .op (some 21) (.mv (.c (.int .i64 0))) <|
  .nil
def Q56_8 : Sts := .op (some 22) (.bin .lss (.t 21) (.t 20)) <|
  .nil
def Q56_9 : Sts := .op (some 23) (.iaddrS 5 (.t 19) (.t 21)) <|
  .op (some 24) (.loadA 5 (.t 23)) <|
  .op (some 11) (.alloc 33 [(.int .i64 0), (.int .i64 0), (.int .i64 0), (.int .i64 0), (.int .i64 0)]) <|
  .op none (.store 5 (.t 11) (.t 24)) <|
  .nil
def Q56_10 : Sts := .op (some 25) (.mv (.t 8)) <|
  .op (some 26) (.mv (.t 1)) <|
  .op (some 27) (.loadA 5 (.t 11)) <|
  .op (some 28) (.mv (.t 9)) <|
  .op (some 29) (.callv (.t 26) [(.t 27), (.t 28)]) <|
  .op (some 30) (.append 33 5 40 [(.int .i64 0), (.int .i64 0), (.int .i64 0), (.int .i64 0), (.int .i64 0)] (.t 25) (.t 29)) <|
  .op (some 8) (.mv (.t 30)) <|
  .nil
def Q56_11 : Sts := .op (some 31) (.mv (.t 9)) <|
  .op (some 32) (.mv (.t 31)) <|
  .cnd 32 true (
  .op (some 33) (.loadA 5 (.t 11)) <|
  .op (some 34) (.call 27 [(.t 33)]) <|
  .op (some 35) (.notb (.t 34)) <|
  .nil) 36 (.t 35) <|
  .op (some 9) (.mv (.t 36)) <|
  .nil
def Q56_12 : Sts := .op (some 37) (.bin .add (.t 21) (.c (.int .i64 1))) <|
  .op (some 21) (.mv (.t 37)) <|
  .nil
def Q56_L13 : RCode := (.seq (.reg Q56_8) (.seq (.cond (.t 22) .skip (.exit 2)) (.seq (.block 3 (.seq (.reg Q56_9) (.seq (.reg Q56_10) (.reg Q56_11)))) (.reg Q56_12))))
def Q56_13 : Sts := .op (some 38) (.faddr 0 (.t 5)) <|
  .op (some 39) (.loadS (.t 38)) <|
  .op (some 40) (.mv (.t 8)) <|
  .op (some 41) (.buildSl 31 1 [(.slice none 0 0)] [(0, 1, (.t 40))]) <|
  .op (some 42) (.append 31 1 24 [(.slice none 0 0)] (.t 39) (.t 41)) <|
  .op (some 43) (.faddr 0 (.t 5)) <|
  .op none (.store 1 (.t 43) (.t 42)) <|
  .nil
def Q56_14 : Sts := .op (some 44) (.bin .add (.t 15) (.c (.int .i64 1))) <|
  .op (some 15) (.mv (.t 44)) <|
  .nil
def Q56_L15 : RCode := (.seq (.reg Q56_3) (.seq (.cond (.t 16) .skip (.exit 0)) (.seq (.block 1 (.seq (.reg Q56_4) (.seq (.reg Q56_5) (.seq (.reg Q56_6) (.seq (.seq (.reg Q56_7) (.block 2 (.loop Q56_L13))) (.reg Q56_13)))))) (.reg Q56_14))))
def Q56_15 : Sts := .op (some 45) (.loadA 1 (.t 5)) <|
  .op none (.store 1 (.t 4) (.t 45)) <|
  .nil
def Q56 : RFun := ⟨46, [0, 1, 2, 4, 5, 7, 8, 9, 11, 13, 14, 15, 19, 20, 21], (.seq (.reg Q56_0) (.seq (.reg Q56_1) (.seq (.seq (.reg Q56_2) (.block 0 (.loop Q56_L15))) (.seq (.reg Q56_15) .ret)))), [.cellA 4 1]⟩
theorem Q56_ok : compF Try.prog [0, 1, 2, 4, 5, 7, 8, 9, 11, 13, 14, 15, 19, 20, 21] [16, 18, 23, 27, 30, 32, 36, 46, 49, 50, 43, 41, 66, 69, 71, 75, 78, 83, 99, 100, 101, 107, 108, 48, 58, 81, 82, 110, 111, 112] 56 = some Q56 := by kernel_rfl

/- lockless/litmus.Expand$1 -/
def Q46_0 : Sts := .op (some 2) (.box 33 (.t 0)) <|
  .op (some 4) (.mv (.c (.slice none 0 0))) <|
  .nil
def Q46_1 : Sts := .op (some 5) (.loadA 5 (.t 2)) <|
  .op (some 6) (.call 27 [(.t 5)]) <|
  .op (some 7) (.notb (.t 6)) <|
  .op (some 8) (.mv (.t 7)) <|
  .cnd 8 false (
  .op (some 9) (.faddr 4 (.t 2)) <|
  .op (some 10) (.loadI .i64 (.t 9)) <|
  .op (some 11) (.bin .neq (.t 10) (.c (.int .i64 4))) <|
  .nil) 12 (.t 11) <|
  .nil
def Q46_2 : Sts := .op (some 13) (.loadA 5 (.t 2)) <|
  .op (some 14) (.buildSl 33 1 [(.int .i64 0), (.int .i64 0), (.int .i64 0), (.int .i64 0), (.int .i64 0)] [(0, 5, (.t 13))]) <|
  .op (some 4) (.mv (.t 14)) <|
  .nil
def Q46_3 : Sts := .op (some 16) (.faddr 0 (.t 2)) <|
  .op (some 17) (.loadI .i64 (.t 16)) <|
  .op (some 18) (.faddr 4 (.t 2)) <|
  .op (some 19) (.loadI .i64 (.t 18)) <|
  .op (some 20) (.call 58 [(.t 17), (.t 19)]) <|
  .op (some 15) (.mv (.t 20)) <|
  .op (some 21) (.extract 0 (.t 15)) <|
  .op (some 22) (.extract 1 (.t 15)) <|
  .op (some 23) (.faddr 4 (.t 2)) <|
  .op none (.store 1 (.t 23) (.t 21)) <|
  .nil
def Q46_4 : AT := .q (.op 1 (some 25) (.loadA 5 (.t 2)) <|
  .nil) <|
  .s 0 (some 24) (.call 59 []) false (
  .q (.nil) <|
  .s 2 (some 26) (.call 59 []) false (
  .q (.nil) <|
  .s 3 (some 27) (.buildSl 33 3 [(.int .i64 0), (.int .i64 0), (.int .i64 0), (.int .i64 0), (.int .i64 0), (.int .i64 0), (.int .i64 0), (.int .i64 0), (.int .i64 0), (.int .i64 0), (.int .i64 0), (.int .i64 0), (.int .i64 0), (.int .i64 0), (.int .i64 0)] [(0, 5, (.t 24)), (5, 5, (.t 25)), (10, 5, (.t 26))]) true (
  .q (.op 4 (some 4) (.mv (.t 27)) <|
  .nil) <|
  .fin) <|
  .no) <|
  .no) <|
  .no
def Q46 : RFun := ⟨28, [0, 2, 4], (.seq (.reg Q46_0) (.seq (.seq (.reg Q46_1) (.cond (.t 12) (.seq (.reg Q46_2) .ret) .skip)) (.seq (.reg Q46_3) (.seq (.any Q46_4) .ret)))), [.tmp 4]⟩
theorem Q46_ok : compF Try.prog [0, 2, 4] [16, 18, 23, 27, 30, 32, 36, 46, 49, 50, 43, 41, 66, 69, 71, 75, 78, 83, 99, 100, 101, 107, 108, 48, 58, 81, 82, 110, 111, 112] 57 = some Q46 := by kernel_rfl

/- lockless/order.Plain -/
def Q75_0 : Sts := .op (some 4) (.mv (.c (.int .i64 0))) <|
  .op (some 5) (.mv (.c (.int .i64 0))) <|
  .nil
def Q75_1 : Sts := .op (some 9) (.mv (.t 0)) <|
  .op (some 10) (.mv (.t 1)) <|
  .op (some 11) (.call 48 [(.t 9), (.t 10)]) <|
  .op (some 8) (.mv (.t 11)) <|
  .op (some 12) (.extract 0 (.t 8)) <|
  .op (some 13) (.extract 1 (.t 8)) <|
  .op (some 6) (.mv (.t 12)) <|
  .op (some 7) (.mv (.t 13)) <|
  .nil
def Q75_2 : Sts := .op (some 15) (.mv (.t 7)) <|
  .op (some 16) (.bin .neq (.t 15) (.c (.int .i64 0))) <|
  .op (some 17) (.mv (.t 16)) <|
  .cnd 17 false (
  .op (some 18) (.mv (.t 6)) <|
  .op (some 19) (.notb (.t 18)) <|
  .nil) 20 (.t 19) <|
  .op (some 21) (.mv (.t 20)) <|
  .cnd 21 false (
  .op (some 22) (.mv (.t 0)) <|
  .op (some 23) (.bin .eql (.t 22) (.c (.int .i64 5))) <|
  .nil) 24 (.t 23) <|
  .op (some 14) (.mv (.t 24)) <|
  .nil
def Q75_3 : Sts := .op (some 4) (.mv (.c (.int .i64 0))) <|
  .op (some 5) (.mv (.c (.int .i64 1))) <|
  .nil
def Q75_4 : Sts := .op (some 26) (.mv (.t 1)) <|
  .op (some 27) (.bin .neq (.t 26) (.c (.int .i64 4))) <|
  .op (some 25) (.mv (.t 27)) <|
  .nil
def Q75_5 : Sts := .op (some 28) (.mv (.t 1)) <|
  .op (some 4) (.mv (.t 28)) <|
  .op (some 5) (.mv (.c (.int .i64 0))) <|
  .nil
def Q75_6 : Sts := .op (some 30) (.mv (.t 0)) <|
  .op (some 31) (.bin .eql (.t 30) (.c (.int .i64 0))) <|
  .op (some 29) (.mv (.t 31)) <|
  .nil
def Q75_7 : Sts := .op (some 4) (.mv (.c (.int .i64 1))) <|
  .op (some 5) (.mv (.c (.int .i64 0))) <|
  .nil
def Q75_8 : Sts := .op (some 33) (.mv (.t 0)) <|
  .op (some 34) (.bin .eql (.t 33) (.c (.int .i64 1))) <|
  .op (some 32) (.mv (.t 34)) <|
  .nil
def Q75_9 : Sts := .op (some 4) (.mv (.c (.int .i64 2))) <|
  .op (some 5) (.mv (.c (.int .i64 0))) <|
  .nil
def Q75_10 : Sts := .op (some 4) (.mv (.c (.int .i64 3))) <|
  .op (some 5) (.mv (.c (.int .i64 0))) <|
  .nil
def Q75 : RFun := ⟨35, [0, 1, 4, 5, 6, 7], (.seq (.reg Q75_0) (.seq (.reg Q75_1) (.seq (.block 0 (.seq (.reg Q75_2) (.cond (.t 14) (.seq (.reg Q75_3) .ret) (.seq (.reg Q75_4) (.cond (.t 25) (.seq (.reg Q75_5) .ret) (.seq (.reg Q75_6) (.cond (.t 29) (.seq (.reg Q75_7) .ret) (.seq (.reg Q75_8) (.cond (.t 32) (.seq (.reg Q75_9) .ret) .skip))))))))) (.seq (.reg Q75_10) .ret)))), [.tmp 4, .tmp 5]⟩
theorem Q75_ok : compF Try.prog [0, 1, 4, 5, 6, 7] [16, 18, 23, 27, 30, 32, 36, 46, 49, 50, 43, 41, 66, 69, 71, 75, 78, 83, 99, 100, 101, 107, 108, 48, 58, 81, 82, 110, 111, 112] 58 = some Q75 := by kernel_rfl

/- lockless/litmus.strongFence -/
def Q57_0 : Sts := .op (some 0) (.alloc 33 [(.int .i64 0), (.int .i64 0), (.int .i64 0), (.int .i64 0), (.int .i64 0)]) <|
  .nil
def Q57_1 : Sts := .op (some 1) (.build [(.int .i64 0), (.int .i64 0), (.int .i64 0), (.int .i64 0), (.int .i64 0)] [(0, 1, (.c (.int .i64 5))), (4, 1, (.c (.int .i64 4)))]) <|
  .op none (.store 5 (.t 0) (.t 1)) <|
  .nil
def Q57 : RFun := ⟨2, [0], (.seq (.reg Q57_0) (.seq (.reg Q57_1) .ret)), [.cellA 0 5]⟩
theorem Q57_ok : compF Try.prog [0] [16, 18, 23, 27, 30, 32, 36, 46, 49, 50, 43, 41, 66, 69, 71, 75, 78, 83, 99, 100, 101, 107, 108, 48, 58, 81, 82, 110, 111, 112] 59 = some Q57 := by kernel_rfl

/- (lockless/axiom.program).dones$1 -/
def Q13_0 : Sts := .op (some 10) (.loadS (.t 1)) <|
  .op (some 11) (.mkfn 61 [] [(.t 1)]) <|
  .op (some 12) (.call 34 [(.t 10), (.t 11)]) <|
  .op (some 3) (.mv (.t 12)) <|
  .nil
def Q13_1 : Sts := .op (some 13) (.mv (.t 3)) <|
  .op (some 14) (.len (.t 13)) <|
  .op (some 15) (.bin .shl (.c (.int .i64 1)) (.t 14)) <|
  .op (some 16) (.mv (.c (.int .i64 0))) <|
  .nil
def Q13_2 : Sts := .op (some 17) (.bin .lss (.t 16) (.t 15)) <|
  .nil
def Q13_3 : Sts := .op (some 18) (.mv (.t 16)) <|
  .op (some 4) (.mv (.t 18)) <|
  .nil
def Q13_4 : Sts := .op (some 19) (.loadS (.t 1)) <|
  .op (some 20) (.len (.t 19)) <|
  .op (some 21) (.makeSl 4 1 1 [(.bool false)] (.t 20) (.t 20)) <|
  .op (some 5) (.mv (.t 21)) <|
  .nil
def Q13_5 : Sts := .op (some 22) (.loadS (.t 1)) <|
  .op (some 23) (.len (.t 22)) <|
  .op (some 24) (.mv (.c (.int .i64 0))) <|
  .nil
def Q13_6 : Sts := .op (some 25) (.bin .lss (.t 24) (.t 23)) <|
  .nil
def Q13_7 : Sts := .op (some 26) (.mv (.t 24)) <|
  .op (some 27) (.iaddrS 6 (.t 22) (.t 24)) <|
  .op (some 28) (.loadA 6 (.t 27)) <|
  .op (some 7) (.alloc 76 [(.int .i64 0), (.int .i64 0), (.int .i64 0), (.int .i64 0), (.int .i64 0), (.int .i64 0)]) <|
  .op (some 6) (.mv (.t 26)) <|
  .op none (.store 6 (.t 7) (.t 28)) <|
  .nil
def Q13_8 : Sts := .op (some 29) (.mv (.t 5)) <|
  .op (some 30) (.mv (.t 6)) <|
  .op (some 31) (.faddr 0 (.t 7)) <|
  .op (some 32) (.faddr 0 (.t 31)) <|
  .op (some 33) (.loadI .i64 (.t 32)) <|
  .op (some 34) (.bin .eql (.t 33) (.c (.int .i64 1))) <|
  .op (some 35) (.mv (.t 34)) <|
  .cnd 35 false (
  .op (some 36) (.faddr 0 (.t 7)) <|
  .op (some 37) (.faddr 0 (.t 36)) <|
  .op (some 38) (.loadI .i64 (.t 37)) <|
  .op (some 39) (.bin .eql (.t 38) (.c (.int .i64 2))) <|
  .nil) 40 (.t 39) <|
  .op (some 41) (.iaddrS 1 (.t 29) (.t 30)) <|
  .op none (.store 1 (.t 41) (.t 40)) <|
  .nil
def Q13_9 : Sts := .op (some 42) (.bin .add (.t 24) (.c (.int .i64 1))) <|
  .op (some 24) (.mv (.t 42)) <|
  .nil
def Q13_L10 : RCode := (.seq (.reg Q13_6) (.seq (.cond (.t 25) .skip (.exit 2)) (.seq (.block 3 (.seq (.reg Q13_7) (.reg Q13_8))) (.reg Q13_9))))
def Q13_10 : Sts := .op (some 43) (.mv (.t 3)) <|
  .op (some 44) (.len (.t 43)) <|
  .op (some 45) (.mv (.c (.int .i64 0))) <|
  .nil
def Q13_11 : Sts := .op (some 46) (.bin .lss (.t 45) (.t 44)) <|
  .nil
def Q13_12 : Sts := .op (some 47) (.mv (.t 45)) <|
  .op (some 48) (.iaddrS 1 (.t 43) (.t 45)) <|
  .op (some 49) (.loadI .i64 (.t 48)) <|
  .op (some 8) (.mv (.t 47)) <|
  .op (some 9) (.mv (.t 49)) <|
  .nil
def Q13_13 : Sts := .op (some 50) (.mv (.t 5)) <|
  .op (some 51) (.mv (.t 9)) <|
  .op (some 52) (.mv (.t 4)) <|
  .op (some 53) (.mv (.t 8)) <|
  .op (some 54) (.bin .shr (.t 52) (.t 53)) <|
  .op (some 55) (.bin .and (.t 54) (.c (.int .i64 1))) <|
  .op (some 56) (.bin .eql (.t 55) (.c (.int .i64 1))) <|
  .op (some 57) (.iaddrS 1 (.t 50) (.t 51)) <|
  .op none (.store 1 (.t 57) (.t 56)) <|
  .nil
def Q13_14 : Sts := .op (some 58) (.bin .add (.t 45) (.c (.int .i64 1))) <|
  .op (some 45) (.mv (.t 58)) <|
  .nil
def Q13_L15 : RCode := (.seq (.reg Q13_11) (.seq (.cond (.t 46) .skip (.exit 4)) (.seq (.block 5 (.seq (.reg Q13_12) (.reg Q13_13))) (.reg Q13_14))))
def Q13_15 : Sts := .op (some 59) (.mv (.t 0)) <|
  .op (some 60) (.mv (.t 5)) <|
  .op (some 61) (.callv (.t 59) [(.t 60)]) <|
  .op (some 62) (.notb (.t 61)) <|
  .nil
def Q13_16 : Sts := .op (some 63) (.bin .add (.t 16) (.c (.int .i64 1))) <|
  .op (some 16) (.mv (.t 63)) <|
  .nil
def Q13_L17 : RCode := (.seq (.reg Q13_2) (.seq (.cond (.t 17) .skip (.exit 0)) (.seq (.block 1 (.seq (.reg Q13_3) (.seq (.reg Q13_4) (.seq (.seq (.reg Q13_5) (.block 2 (.loop Q13_L10))) (.seq (.seq (.reg Q13_10) (.block 4 (.loop Q13_L15))) (.seq (.reg Q13_15) (.cond (.t 62) .ret .skip))))))) (.reg Q13_16))))
def Q13 : RFun := ⟨64, [0, 1, 3, 4, 5, 6, 7, 8, 9, 15, 16, 22, 23, 24, 43, 44, 45], (.seq (.reg Q13_0) (.seq (.reg Q13_1) (.block 0 (.loop Q13_L17)))), []⟩
theorem Q13_ok : compF Try.prog [0, 1, 3, 4, 5, 6, 7, 8, 9, 15, 16, 22, 23, 24, 43, 44, 45] [16, 18, 23, 27, 30, 32, 36, 46, 49, 50, 43, 41, 66, 69, 71, 75, 78, 83, 99, 100, 101, 107, 108, 48, 58, 81, 82, 110, 111, 112] 60 = some Q13 := by kernel_rfl

/- (lockless/axiom.program).dones$1$1 -/
def Q14_0 : Sts := .op (some 3) (.mv (.c (.bool false))) <|
  .nil
def Q14_1 : Sts := .op (some 4) (.loadS (.t 1)) <|
  .op (some 5) (.mv (.t 0)) <|
  .op (some 6) (.iaddrS 6 (.t 4) (.t 5)) <|
  .op (some 7) (.faddr 0 (.t 6)) <|
  .op (some 8) (.faddr 0 (.t 7)) <|
  .op (some 9) (.loadI .i64 (.t 8)) <|
  .op (some 10) (.bin .eql (.t 9) (.c (.int .i64 3))) <|
  .op (some 11) (.mv (.t 10)) <|
  .cnd 11 false (
  .op (some 12) (.loadS (.t 1)) <|
  .op (some 13) (.mv (.t 0)) <|
  .op (some 14) (.iaddrS 6 (.t 12) (.t 13)) <|
  .op (some 15) (.faddr 0 (.t 14)) <|
  .op (some 16) (.faddr 0 (.t 15)) <|
  .op (some 17) (.loadI .i64 (.t 16)) <|
  .op (some 18) (.bin .eql (.t 17) (.c (.int .i64 4))) <|
  .nil) 19 (.t 18) <|
  .op (some 3) (.mv (.t 19)) <|
  .nil
def Q14 : RFun := ⟨20, [0, 1, 3], (.seq (.reg Q14_0) (.seq (.reg Q14_1) .ret)), [.tmp 3]⟩
theorem Q14_ok : compF Try.prog [0, 1, 3] [16, 18, 23, 27, 30, 32, 36, 46, 49, 50, 43, 41, 66, 69, 71, 75, 78, 83, 99, 100, 101, 107, 108, 48, 58, 81, 82, 110, 111, 112] 61 = some Q14 := by kernel_rfl

/- (lockless/axiom.program).orders$1 -/
def Q28_0 : Sts := .op (some 4) (.box 105 (.t 0)) <|
  .nil
def Q28_1 : Sts := .op (some 7) (.loadI .i64 (.t 1)) <|
  .op (some 8) (.bin .eql (.t 7) (.c (.int .i64 3))) <|
  .nil
def Q28_2 : Sts := .op (some 9) (.loadX (.t 4)) <|
  .op (some 10) (.callv (.t 9) [(.c (.slice none 0 0))]) <|
  .nil
def Q28_3 : AT := .q (.op 0 (some 11) (.loadS (.t 2)) <|
  .op 1 (some 12) (.loadS (.t 2)) <|
  .op 2 (some 13) (.loadS (.t 3)) <|
  .op 3 (some 14) (.loadI .i64 (.t 1)) <|
  .nil) <|
  .s 4 (some 15) (.call 63 [(.t 12), (.t 13), (.t 14)]) false (
  .q (.nil) <|
  .s 5 (some 16) (.call 42 [(.t 11), (.t 15)]) true (
  .q (.nil) <|
  .fin) <|
  .no) <|
  .no
def Q28_4 : Sts := .op (some 5) (.alloc 34 [(.slice none 0 0)]) <|
  .op none (.store 1 (.t 5) (.t 17)) <|
  .nil
def Q28_5 : Sts := .op (some 18) (.loadS (.t 2)) <|
  .op (some 19) (.loadS (.t 3)) <|
  .op (some 20) (.loadI .i64 (.t 1)) <|
  .op (some 21) (.bin .add (.t 20) (.c (.int .i64 1))) <|
  .op (some 22) (.call 39 [(.t 18), (.t 19), (.t 21)]) <|
  .nil
def Q28_6 : Sts := .op (some 6) (.mv (.t 23)) <|
  .nil
def Q28_7 : AT := .q (.op 0 (some 24) (.loadX (.t 4)) <|
  .op 1 (some 25) (.loadS (.t 5)) <|
  .op 3 (some 27) (.mv (.t 6)) <|
  .nil) <|
  .s 2 (some 26) (.buildSl 34 1 [(.slice none 0 0)] [(0, 1, (.t 25))]) false (
  .q (.nil) <|
  .s 4 (some 28) (.append 34 1 24 [(.slice none 0 0)] (.t 26) (.t 27)) false (
  .q (.nil) <|
  .s 5 (some 29) (.callv (.t 24) [(.t 28)]) true (
  .q (.op 6 (some 30) (.notb (.t 29)) <|
  .nil) <|
  .fin) <|
  .no) <|
  .no) <|
  .no
def R_axiom_program_orders_S1_A8 : RCode := (.reg Q28_6)
def R_axiom_program_orders_S1_B8 : RCode := (.block 3 (.seq (.any Q28_7) (.cond (.t 30) .ret .skip)))
def R_axiom_program_orders_S1_A9 : RCode := (.reg Q28_4)
def R_axiom_program_orders_S1_B9 : RCode := (.block 1 (.seq (.reg Q28_5) (.block 2 (.rangeF (.t 22) [23] R_axiom_program_orders_S1_A8 R_axiom_program_orders_S1_B8))))
def Q28 : RFun := ⟨31, [0, 1, 2, 3, 4, 5, 6, 16, 17, 22, 23], (.seq (.reg Q28_0) (.seq (.seq (.reg Q28_1) (.cond (.t 8) (.seq (.reg Q28_2) .ret) .skip)) (.seq (.any Q28_3) (.block 0 (.rangeF (.t 16) [17] R_axiom_program_orders_S1_A9 R_axiom_program_orders_S1_B9))))), []⟩
theorem Q28_ok : compF Try.prog [0, 1, 2, 3, 4, 5, 6, 16, 17, 22, 23] [16, 18, 23, 27, 30, 32, 36, 46, 49, 50, 43, 41, 66, 69, 71, 75, 78, 83, 99, 100, 101, 107, 108, 48, 58, 81, 82, 110, 111, 112] 62 = some Q28 := by kernel_rfl

/- (lockless/axiom.program).writers -/
def Q36_0 : Sts := .op (some 3) (.box 49 (.t 0)) <|
  .op (some 4) (.box 55 (.t 1)) <|
  .op (some 5) (.box 3 (.t 2)) <|
  .op (some 6) (.mv (.c (.slice none 0 0))) <|
  .nil
def Q36_1 : Sts := .op (some 7) (.loadS (.t 3)) <|
  .op (some 8) (.mkfn 96 [] [(.t 3), (.t 4), (.t 5)]) <|
  .op (some 9) (.call 34 [(.t 7), (.t 8)]) <|
  .op (some 6) (.mv (.t 9)) <|
  .nil
def Q36 : RFun := ⟨10, [0, 1, 2, 3, 4, 5, 6], (.seq (.reg Q36_0) (.seq (.reg Q36_1) .ret)), [.tmp 6]⟩
theorem Q36_ok : compF Try.prog [0, 1, 2, 3, 4, 5, 6] [16, 18, 23, 27, 30, 32, 36, 46, 49, 50, 43, 41, 66, 69, 71, 75, 78, 83, 99, 100, 101, 107, 108, 48, 58, 81, 82, 110, 111, 112] 63 = some Q36 := by kernel_rfl

/- (lockless/axiom.program).froms$1 -/
def Q21_0 : Sts := .op (some 4) (.box 107 (.t 0)) <|
  .nil
def Q21_1 : Sts := .op (some 7) (.loadS (.t 1)) <|
  .op (some 8) (.len (.t 7)) <|
  .op (some 9) (.makeSl 3 1 8 [(.int .i64 0)] (.t 8) (.t 8)) <|
  .op (some 5) (.alloc 34 [(.slice none 0 0)]) <|
  .op none (.store 1 (.t 5) (.t 9)) <|
  .nil
def Q21_2 : Sts := .op (some 6) (.alloc 78 [.nilFunc]) <|
  .nil
def Q21_3 : Sts := .op (some 10) (.mkfn 65 [] [(.t 1), (.t 4), (.t 5), (.t 6), (.t 2), (.t 3)]) <|
  .op none (.store 1 (.t 6) (.t 10)) <|
  .nil
def Q21_4 : Sts := .op (some 11) (.loadX (.t 6)) <|
  .op (some 12) (.callv (.t 11) [(.c (.int .i64 0))]) <|
  .nil
def Q21 : RFun := ⟨13, [0, 1, 2, 3, 4, 5, 6], (.seq (.reg Q21_0) (.seq (.reg Q21_1) (.seq (.reg Q21_2) (.seq (.reg Q21_3) (.reg Q21_4))))), []⟩
theorem Q21_ok : compF Try.prog [0, 1, 2, 3, 4, 5, 6] [16, 18, 23, 27, 30, 32, 36, 46, 49, 50, 43, 41, 66, 69, 71, 75, 78, 83, 99, 100, 101, 107, 108, 48, 58, 81, 82, 110, 111, 112] 64 = some Q21 := by kernel_rfl

/- (lockless/axiom.program).froms$1$1 -/
def Q22_0 : Sts := .op (some 8) (.mv (.c (.bool false))) <|
  .nil
def Q22_1 : Sts := .op (some 13) (.mv (.t 0)) <|
  .op (some 14) (.loadS (.t 1)) <|
  .op (some 15) (.len (.t 14)) <|
  .op (some 16) (.bin .eql (.t 13) (.t 15)) <|
  .nil
def Q22_2 : AT := .q (.op 0 (some 17) (.loadX (.t 2)) <|
  .op 1 (some 18) (.loadS (.t 3)) <|
  .nil) <|
  .s 2 (some 19) (.call 51 [(.t 18)]) false (
  .q (.nil) <|
  .s 3 (some 20) (.callv (.t 17) [(.t 19)]) true (
  .q (.op 4 (some 8) (.mv (.t 20)) <|
  .nil) <|
  .fin) <|
  .no) <|
  .no
def Q22_3 : Sts := .op (some 21) (.loadS (.t 1)) <|
  .op (some 22) (.mv (.t 0)) <|
  .op (some 23) (.iaddrS 6 (.t 21) (.t 22)) <|
  .op (some 24) (.loadA 6 (.t 23)) <|
  .op (some 25) (.call 46 [(.t 24)]) <|
  .op (some 26) (.notb (.t 25)) <|
  .nil
def Q22_4 : Sts := .op (some 27) (.loadS (.t 3)) <|
  .op (some 28) (.mv (.t 0)) <|
  .op (some 29) (.iaddrS 1 (.t 27) (.t 28)) <|
  .op none (.store 1 (.t 29) (.c (.int .i64 (-2)))) <|
  .nil
def Q22_5 : Sts := .op (some 30) (.loadX (.t 4)) <|
  .op (some 31) (.mv (.t 0)) <|
  .op (some 32) (.bin .add (.t 31) (.c (.int .i64 1))) <|
  .op (some 33) (.callv (.t 30) [(.t 32)]) <|
  .op (some 8) (.mv (.t 33)) <|
  .nil
def Q22_6 : AT := .q (.op 1 (some 35) (.loadS (.t 5)) <|
  .op 2 (some 36) (.loadS (.t 1)) <|
  .op 3 (some 37) (.mv (.t 0)) <|
  .op 4 (some 38) (.iaddrS 6 (.t 36) (.t 37)) <|
  .op 5 (some 39) (.faddr 0 (.t 38)) <|
  .op 6 (some 40) (.faddr 1 (.t 39)) <|
  .op 7 (some 41) (.loadI .i64 (.t 40)) <|
  .op 8 (some 42) (.iaddrS 1 (.t 35) (.t 41)) <|
  .op 9 (some 43) (.loadS (.t 42)) <|
  .nil) <|
  .s 0 (some 34) (.buildSl 3 1 [(.int .i64 0)] [(0, 1, (.c (.int .i64 (-1))))]) false (
  .q (.nil) <|
  .s 10 (some 44) (.append 3 1 8 [(.int .i64 0)] (.t 34) (.t 43)) true (
  .q (.op 11 (some 9) (.mv (.t 44)) <|
  .nil) <|
  .fin) <|
  .no) <|
  .no
def Q22_7 : Sts := .op (some 45) (.loadS (.t 6)) <|
  .op (some 46) (.mv (.t 0)) <|
  .op (some 47) (.iaddrS 1 (.t 45) (.t 46)) <|
  .op (some 48) (.loadB (.t 47)) <|
  .nil
def Q22_8 : Sts := .op (some 49) (.mv (.t 9)) <|
  .op (some 50) (.mv (.t 0)) <|
  .op (some 51) (.call 66 [(.t 49), (.t 50)]) <|
  .op (some 10) (.mv (.t 51)) <|
  .nil
def Q22_9 : Sts := .op (some 52) (.mv (.t 9)) <|
  .op (some 53) (.mv (.t 10)) <|
  .op (some 54) (.bin .sub (.t 53) (.c (.int .i64 1))) <|
  .op (some 55) (.mv (.t 10)) <|
  .op (some 56) (.slS 1 (.t 52) (some (.t 54)) (some (.t 55)) none) <|
  .op (some 9) (.mv (.t 56)) <|
  .nil
def Q22_10 : Sts := .op (some 57) (.mv (.t 9)) <|
  .op (some 58) (.len (.t 57)) <|
  .op (some 59) (.mv (.c (.int .i64 0))) <|
  .nil
def Q22_11 : Sts := .op (some 60) (.bin .lss (.t 59) (.t 58)) <|
  .nil
def Q22_12 : Sts := .op (some 61) (.iaddrS 1 (.t 57) (.t 59)) <|
  .op (some 62) (.loadI .i64 (.t 61)) <|
  .op (some 12) (.mv (.t 62)) <|
  .nil
def Q22_13 : Sts := .op (some 63) (.loadS (.t 3)) <|
  .op (some 64) (.mv (.t 0)) <|
  .op (some 65) (.mv (.t 12)) <|
  .op (some 66) (.iaddrS 1 (.t 63) (.t 64)) <|
  .op none (.store 1 (.t 66) (.t 65)) <|
  .nil
def Q22_14 : Sts := .op (some 67) (.loadX (.t 4)) <|
  .op (some 68) (.mv (.t 0)) <|
  .op (some 69) (.bin .add (.t 68) (.c (.int .i64 1))) <|
  .op (some 70) (.callv (.t 67) [(.t 69)]) <|
  .op (some 71) (.notb (.t 70)) <|
  .nil
def Q22_15 : Sts := .op (some 8) (.mv (.c (.bool false))) <|
  .nil
def Q22_16 : Sts := .op (some 72) (.bin .add (.t 59) (.c (.int .i64 1))) <|
  .op (some 59) (.mv (.t 72)) <|
  .nil
def Q22_L17 : RCode := (.seq (.reg Q22_11) (.seq (.cond (.t 60) .skip (.exit 0)) (.seq (.block 1 (.seq (.reg Q22_12) (.seq (.reg Q22_13) (.seq (.reg Q22_14) (.cond (.t 71) (.seq (.reg Q22_15) .ret) .skip))))) (.reg Q22_16))))
def Q22_17 : Sts := .op (some 8) (.mv (.c (.bool true))) <|
  .nil
def Q22 : RFun := ⟨73, [0, 1, 2, 3, 4, 5, 6, 8, 9, 10, 12, 57, 58, 59], (.seq (.reg Q22_0) (.seq (.seq (.reg Q22_1) (.cond (.t 16) (.seq (.any Q22_2) .ret) .skip)) (.seq (.seq (.reg Q22_3) (.cond (.t 26) (.seq (.reg Q22_4) (.seq (.reg Q22_5) .ret)) .skip)) (.seq (.any Q22_6) (.seq (.seq (.reg Q22_7) (.cond (.t 48) (.seq (.reg Q22_8) (.reg Q22_9)) .skip)) (.seq (.seq (.reg Q22_10) (.block 0 (.loop Q22_L17))) (.seq (.reg Q22_17) .ret))))))), [.tmp 8]⟩
theorem Q22_ok : compF Try.prog [0, 1, 2, 3, 4, 5, 6, 8, 9, 10, 12, 57, 58, 59] [16, 18, 23, 27, 30, 32, 36, 46, 49, 50, 43, 41, 66, 69, 71, 75, 78, 83, 99, 100, 101, 107, 108, 48, 58, 81, 82, 110, 111, 112] 65 = some Q22 := by kernel_rfl

/- slices.Index[[]int,int] -/
def Q90_0 : Sts := .op (some 4) (.mv (.c (.int .i64 0))) <|
  .nil
def Q90_1 : Sts := .op (some 6) (.mv (.t 0)) <|
  .op (some 7) (.len (.t 6)) <|
  .op (some 8) (.mv (.c (.int .i64 0))) <|
  .nil
def Q90_2 : Sts := .op (some 9) (.bin .lss (.t 8) (.t 7)) <|
  .nil
def Q90_3 : Sts := .op (some 10) (.mv (.t 8)) <|
  .op (some 5) (.mv (.t 10)) <|
  .nil
def Q90_4 : Sts := .op (some 11) (.mv (.t 1)) <|
  .op (some 12) (.mv (.t 0)) <|
  .op (some 13) (.mv (.t 5)) <|
  .op (some 14) (.iaddrS 1 (.t 12) (.t 13)) <|
  .op (some 15) (.loadI .i64 (.t 14)) <|
  .op (some 16) (.bin .eql (.t 11) (.t 15)) <|
  .nil
def Q90_5 : Sts := .op (some 17) (.mv (.t 5)) <|
  .op (some 4) (.mv (.t 17)) <|
  .nil
def Q90_6 : Sts := .op (some 18) (.bin .add (.t 8) (.c (.int .i64 1))) <|
  .op (some 8) (.mv (.t 18)) <|
  .nil
def Q90_L7 : RCode := (.seq (.reg Q90_2) (.seq (.cond (.t 9) .skip (.exit 0)) (.seq (.block 1 (.seq (.reg Q90_3) (.seq (.reg Q90_4) (.cond (.t 16) (.seq (.reg Q90_5) .ret) .skip)))) (.reg Q90_6))))
def Q90_7 : Sts := .op (some 4) (.mv (.c (.int .i64 (-1)))) <|
  .nil
def Q90 : RFun := ⟨19, [0, 1, 4, 5, 7, 8], (.seq (.reg Q90_0) (.seq (.seq (.reg Q90_1) (.block 0 (.loop Q90_L7))) (.seq (.reg Q90_7) .ret))), [.tmp 4]⟩
theorem Q90_ok : compF Try.prog [0, 1, 4, 5, 7, 8] [16, 18, 23, 27, 30, 32, 36, 46, 49, 50, 43, 41, 66, 69, 71, 75, 78, 83, 99, 100, 101, 107, 108, 48, 58, 81, 82, 110, 111, 112] 66 = some Q90 := by kernel_rfl

/- (lockless/axiom.program).merges$1 -/
def Q24_0 : Sts := .op (some 3) (.box 107 (.t 0)) <|
  .nil
def Q24_1 : Sts := .op (some 4) (.alloc 47 [.nilFunc]) <|
  .nil
def Q24_2 : Sts := .op (some 5) (.mkfn 68 [] [(.t 3), (.t 1), (.t 4)]) <|
  .op none (.store 1 (.t 4) (.t 5)) <|
  .nil
def Q24_3 : Sts := .op (some 6) (.loadX (.t 4)) <|
  .op (some 7) (.loadS (.t 2)) <|
  .op (some 8) (.callv (.t 6) [(.c (.slice none 0 0)), (.t 7)]) <|
  .nil
def Q24 : RFun := ⟨9, [0, 1, 2, 3, 4], (.seq (.reg Q24_0) (.seq (.reg Q24_1) (.seq (.reg Q24_2) (.reg Q24_3)))), []⟩
theorem Q24_ok : compF Try.prog [0, 1, 2, 3, 4] [16, 18, 23, 27, 30, 32, 36, 46, 49, 50, 43, 41, 66, 69, 71, 75, 78, 83, 99, 100, 101, 107, 108, 48, 58, 81, 82, 110, 111, 112] 67 = some Q24 := by kernel_rfl

/- (lockless/axiom.program).merges$1$1 -/
def Q25_0 : Sts := .op (some 7) (.mv (.c (.bool false))) <|
  .nil
def Q25_1 : Sts := .op (some 11) (.mv (.t 1)) <|
  .op (some 12) (.len (.t 11)) <|
  .op (some 13) (.bin .eql (.t 12) (.c (.int .i64 0))) <|
  .nil
def Q25_2 : AT := .q (.op 0 (some 14) (.loadX (.t 2)) <|
  .op 1 (some 15) (.mv (.t 0)) <|
  .nil) <|
  .s 2 (some 16) (.call 51 [(.t 15)]) false (
  .q (.nil) <|
  .s 3 (some 17) (.callv (.t 14) [(.t 16)]) true (
  .q (.op 4 (some 7) (.mv (.t 17)) <|
  .nil) <|
  .fin) <|
  .no) <|
  .no
def Q25_3 : Sts := .op (some 18) (.mv (.t 1)) <|
  .op (some 19) (.len (.t 18)) <|
  .op (some 20) (.mv (.c (.int .i64 0))) <|
  .nil
def Q25_4 : Sts := .op (some 21) (.bin .lss (.t 20) (.t 19)) <|
  .nil
def Q25_5 : Sts := .op (some 22) (.mv (.t 20)) <|
  .op (some 23) (.iaddrS 1 (.t 18) (.t 20)) <|
  .op (some 24) (.loadI .i64 (.t 23)) <|
  .op (some 9) (.alloc 3 [(.int .i64 0)]) <|
  .op (some 8) (.mv (.t 22)) <|
  .op none (.store 1 (.t 9) (.t 24)) <|
  .nil
def Q25_6 : Sts := .op (some 25) (.mv (.t 1)) <|
  .op (some 26) (.mv (.t 8)) <|
  .op (some 27) (.slS 1 (.t 25) none (some (.t 26)) none) <|
  .op (some 28) (.mkfn 70 [] [(.t 3), (.t 9)]) <|
  .op (some 29) (.call 69 [(.t 27), (.t 28)]) <|
  .op (some 10) (.mv (.t 29)) <|
  .nil
def Q25_7 : AT := .q (.op 0 (some 30) (.mv (.t 10)) <|
  .op 1 (some 31) (.notb (.t 30)) <|
  .op 2 (some 32) (.mv (.t 31)) <|
  .nil) <|
  .br 32 (
  .q (.nil) <|
  .q (.op 3 (some 33) (.loadX (.t 4)) <|
  .nil) <|
  .q (.nil) <|
  .q (.op 4 (some 34) (.mv (.t 0)) <|
  .nil) <|
  .q (.nil) <|
  .q (.op 5 (some 35) (.call 71 [(.t 34)]) <|
  .nil) <|
  .q (.nil) <|
  .q (.op 6 (some 36) (.loadI .i64 (.t 9)) <|
  .nil) <|
  .q (.nil) <|
  .q (.op 9 (some 39) (.mv (.t 1)) <|
  .nil) <|
  .q (.nil) <|
  .q (.op 10 (some 40) (.mv (.t 8)) <|
  .nil) <|
  .q (.nil) <|
  .q (.op 11 (some 41) (.slS 1 (.t 39) none (some (.t 40)) none) <|
  .nil) <|
  .q (.nil) <|
  .q (.op 12 (some 42) (.mv (.t 1)) <|
  .nil) <|
  .q (.nil) <|
  .q (.op 13 (some 43) (.mv (.t 8)) <|
  .nil) <|
  .q (.nil) <|
  .q (.op 14 (some 44) (.bin .add (.t 43) (.c (.int .i64 1))) <|
  .nil) <|
  .q (.nil) <|
  .q (.op 15 (some 45) (.slS 1 (.t 42) (some (.t 44)) none none) <|
  .nil) <|
  .q (.nil) <|
  .s 7 (some 37) (.buildSl 3 1 [(.int .i64 0)] [(0, 1, (.t 36))]) false (
  .q (.nil) <|
  .s 8 (some 38) (.append 3 1 8 [(.int .i64 0)] (.t 35) (.t 37)) false (
  .q (.nil) <|
  .s 16 (some 46) (.buildSl 34 2 [(.slice none 0 0), (.slice none 0 0)] [(0, 1, (.t 41)), (1, 1, (.t 45))]) false (
  .q (.nil) <|
  .s 17 (some 47) (.call 52 [(.t 46)]) false (
  .q (.nil) <|
  .s 18 (some 48) (.callv (.t 33) [(.t 38), (.t 47)]) true (
  .q (.g 32 true (
  .op 19 (some 49) (.notb (.t 48)) <|
  .nil) 20 50 (.t 49) <|
  .nil) <|
  .fin) <|
  .no) <|
  .no) <|
  .no) <|
  .s 16 (some 46) (.buildSl 34 2 [(.slice none 0 0), (.slice none 0 0)] [(0, 1, (.t 41)), (1, 1, (.t 45))]) false (
  .q (.nil) <|
  .s 8 (some 38) (.append 3 1 8 [(.int .i64 0)] (.t 35) (.t 37)) false (
  .q (.nil) <|
  .s 17 (some 47) (.call 52 [(.t 46)]) false (
  .q (.nil) <|
  .s 18 (some 48) (.callv (.t 33) [(.t 38), (.t 47)]) true (
  .q (.g 32 true (
  .op 19 (some 49) (.notb (.t 48)) <|
  .nil) 20 50 (.t 49) <|
  .nil) <|
  .fin) <|
  .no) <|
  .no) <|
  .no) <|
  .no) <|
  .s 16 (some 46) (.buildSl 34 2 [(.slice none 0 0), (.slice none 0 0)] [(0, 1, (.t 41)), (1, 1, (.t 45))]) false (
  .q (.nil) <|
  .s 7 (some 37) (.buildSl 3 1 [(.int .i64 0)] [(0, 1, (.t 36))]) false (
  .q (.nil) <|
  .s 8 (some 38) (.append 3 1 8 [(.int .i64 0)] (.t 35) (.t 37)) false (
  .q (.nil) <|
  .s 17 (some 47) (.call 52 [(.t 46)]) false (
  .q (.nil) <|
  .s 18 (some 48) (.callv (.t 33) [(.t 38), (.t 47)]) true (
  .q (.g 32 true (
  .op 19 (some 49) (.notb (.t 48)) <|
  .nil) 20 50 (.t 49) <|
  .nil) <|
  .fin) <|
  .no) <|
  .no) <|
  .no) <|
  .no) <|
  .no) <|
  .q (.nil) <|
  .sk 3 (some 33) <|
  .q (.nil) <|
  .sk 4 (some 34) <|
  .q (.nil) <|
  .sk 5 (some 35) <|
  .q (.nil) <|
  .sk 6 (some 36) <|
  .q (.nil) <|
  .sk 7 (some 37) <|
  .q (.nil) <|
  .sk 8 (some 38) <|
  .q (.nil) <|
  .sk 9 (some 39) <|
  .q (.nil) <|
  .sk 10 (some 40) <|
  .q (.nil) <|
  .sk 11 (some 41) <|
  .q (.nil) <|
  .sk 12 (some 42) <|
  .q (.nil) <|
  .sk 13 (some 43) <|
  .q (.nil) <|
  .sk 14 (some 44) <|
  .q (.nil) <|
  .sk 15 (some 45) <|
  .q (.nil) <|
  .sk 16 (some 46) <|
  .q (.nil) <|
  .sk 17 (some 47) <|
  .q (.nil) <|
  .sk 18 (some 48) <|
  .q (.g 32 true (
  .op 19 (some 49) (.notb (.t 48)) <|
  .nil) 20 50 (.t 49) <|
  .nil) <|
  .fin
def Q25_8 : Sts := .op (some 7) (.mv (.c (.bool false))) <|
  .nil
def Q25_9 : Sts := .op (some 51) (.bin .add (.t 20) (.c (.int .i64 1))) <|
  .op (some 20) (.mv (.t 51)) <|
  .nil
def Q25_L10 : RCode := (.seq (.reg Q25_4) (.seq (.cond (.t 21) .skip (.exit 0)) (.seq (.block 1 (.seq (.reg Q25_5) (.seq (.reg Q25_6) (.seq (.any Q25_7) (.cond (.t 50) (.seq (.reg Q25_8) .ret) .skip))))) (.reg Q25_9))))
def Q25_10 : Sts := .op (some 7) (.mv (.c (.bool true))) <|
  .nil
def Q25 : RFun := ⟨52, [0, 1, 2, 3, 4, 7, 8, 9, 10, 18, 19, 20], (.seq (.reg Q25_0) (.seq (.seq (.reg Q25_1) (.cond (.t 13) (.seq (.any Q25_2) .ret) .skip)) (.seq (.seq (.reg Q25_3) (.block 0 (.loop Q25_L10))) (.seq (.reg Q25_10) .ret)))), [.tmp 7]⟩
theorem Q25_ok : compF Try.prog [0, 1, 2, 3, 4, 7, 8, 9, 10, 18, 19, 20] [16, 18, 23, 27, 30, 32, 36, 46, 49, 50, 43, 41, 66, 69, 71, 75, 78, 83, 99, 100, 101, 107, 108, 48, 58, 81, 82, 110, 111, 112] 68 = some Q25 := by kernel_rfl

/- slices.ContainsFunc[[]int,int] -/
def Q86_0 : Sts := .op (some 4) (.mv (.c (.bool false))) <|
  .nil
def Q86_1 : Sts := .op (some 5) (.mv (.t 0)) <|
  .op (some 6) (.mv (.t 1)) <|
  .op (some 7) (.call 97 [(.t 5), (.t 6)]) <|
  .op (some 8) (.bin .geq (.t 7) (.c (.int .i64 0))) <|
  .op (some 4) (.mv (.t 8)) <|
  .nil
def Q86 : RFun := ⟨9, [0, 1, 4], (.seq (.reg Q86_0) (.seq (.reg Q86_1) .ret)), [.tmp 4]⟩
theorem Q86_ok : compF Try.prog [0, 1, 4] [16, 18, 23, 27, 30, 32, 36, 46, 49, 50, 43, 41, 66, 69, 71, 75, 78, 83, 99, 100, 101, 107, 108, 48, 58, 81, 82, 110, 111, 112] 69 = some Q86 := by kernel_rfl

/- (lockless/axiom.program).merges$1$1$1 -/
def Q26_0 : Sts := .op (some 4) (.mv (.c (.bool false))) <|
  .nil
def Q26_1 : AT := .q (.op 0 (some 5) (.loadS (.t 1)) <|
  .op 1 (some 6) (.mv (.t 0)) <|
  .op 2 (some 7) (.iaddrS 6 (.t 5) (.t 6)) <|
  .op 3 (some 8) (.faddr 5 (.t 7)) <|
  .op 4 (some 9) (.loadI .i64 (.t 8)) <|
  .op 5 (some 10) (.loadS (.t 1)) <|
  .op 6 (some 11) (.loadI .i64 (.t 2)) <|
  .op 7 (some 12) (.iaddrS 6 (.t 10) (.t 11)) <|
  .op 8 (some 13) (.faddr 5 (.t 12)) <|
  .op 9 (some 14) (.loadI .i64 (.t 13)) <|
  .op 10 (some 15) (.bin .eql (.t 9) (.t 14)) <|
  .op 11 (some 4) (.mv (.t 15)) <|
  .nil) <|
  .fin
def Q26 : RFun := ⟨16, [0, 1, 2, 4], (.seq (.reg Q26_0) (.seq (.any Q26_1) .ret)), [.tmp 4]⟩
theorem Q26_ok : compF Try.prog [0, 1, 2, 4] [16, 18, 23, 27, 30, 32, 36, 46, 49, 50, 43, 41, 66, 69, 71, 75, 78, 83, 99, 100, 101, 107, 108, 48, 58, 81, 82, 110, 111, 112] 70 = some Q26 := by kernel_rfl

/- slices.Clip[[]int,int] -/
def Q80_0 : Sts := .op (some 2) (.mv (.c (.slice none 0 0))) <|
  .nil
def Q80_1 : Sts := .op (some 3) (.mv (.t 0)) <|
  .op (some 4) (.mv (.t 0)) <|
  .op (some 5) (.len (.t 4)) <|
  .op (some 6) (.mv (.t 0)) <|
  .op (some 7) (.len (.t 6)) <|
  .op (some 8) (.slS 1 (.t 3) none (some (.t 5)) (some (.t 7))) <|
  .op (some 2) (.mv (.t 8)) <|
  .nil
def Q80 : RFun := ⟨9, [0, 2], (.seq (.reg Q80_0) (.seq (.reg Q80_1) .ret)), [.tmp 2]⟩
theorem Q80_ok : compF Try.prog [0, 2] [16, 18, 23, 27, 30, 32, 36, 46, 49, 50, 43, 41, 66, 69, 71, 75, 78, 83, 99, 100, 101, 107, 108, 48, 58, 81, 82, 110, 111, 112] 71 = some Q80 := by kernel_rfl

/- (lockless/axiom.program).steps -/
def Q34_0 : Sts := .op (some 3) (.box 57 (.t 1)) <|
  .op (some 4) (.mv (.c (.slice none 0 0))) <|
  .nil
def Q34_1 : Sts := .op (some 8) (.mv (.t 0)) <|
  .op (some 9) (.call 98 [(.t 8)]) <|
  .op (some 5) (.mv (.t 9)) <|
  .nil
def Q34_2 : Sts := .op (some 6) (.mv (.c (.int .i64 1))) <|
  .nil
def Q34_3 : Sts := .op (some 10) (.mv (.t 6)) <|
  .op (some 11) (.mv (.t 0)) <|
  .op (some 12) (.len (.t 11)) <|
  .op (some 13) (.bin .lss (.t 10) (.t 12)) <|
  .nil
def Q34_4 : AT := .q (.op 0 (some 16) (.mv (.t 0)) <|
  .op 1 (some 17) (.mv (.t 6)) <|
  .op 2 (some 18) (.iaddrS 6 (.t 16) (.t 17)) <|
  .op 3 (some 19) (.faddr 5 (.t 18)) <|
  .op 4 (some 20) (.loadI .i64 (.t 19)) <|
  .op 5 (some 21) (.mv (.t 0)) <|
  .op 6 (some 22) (.mv (.t 6)) <|
  .op 7 (some 23) (.bin .sub (.t 22) (.c (.int .i64 1))) <|
  .op 8 (some 24) (.iaddrS 6 (.t 21) (.t 23)) <|
  .op 9 (some 25) (.faddr 5 (.t 24)) <|
  .op 10 (some 26) (.loadI .i64 (.t 25)) <|
  .op 11 (some 27) (.bin .eql (.t 20) (.t 26)) <|
  .nil) <|
  .fin
def Q34_5 : Sts := .op (some 28) (.mv (.t 5)) <|
  .op (some 29) (.mv (.t 6)) <|
  .op (some 30) (.bin .sub (.t 29) (.c (.int .i64 1))) <|
  .op (some 31) (.mv (.t 6)) <|
  .op (some 32) (.call 73 [(.t 28), (.t 30), (.t 31)]) <|
  .nil
def Q34_6 : Sts := .op (some 14) (.mv (.t 6)) <|
  .op (some 15) (.bin .add (.t 14) (.c (.int .i64 1))) <|
  .op (some 6) (.mv (.t 15)) <|
  .nil
def Q34_L7 : RCode := (.seq (.seq (.reg Q34_3) (.cond (.t 13) .skip (.exit 0))) (.seq (.block 1 (.seq (.any Q34_4) (.cond (.t 27) (.reg Q34_5) .skip))) (.reg Q34_6)))
def Q34_7 : Sts := .op (some 7) (.mv (.c (.int .i64 1))) <|
  .nil
def Q34_8 : Sts := .op (some 33) (.mv (.t 7)) <|
  .op (some 34) (.faddr 3 (.t 3)) <|
  .op (some 35) (.loadS (.t 34)) <|
  .op (some 36) (.len (.t 35)) <|
  .op (some 37) (.bin .lss (.t 33) (.t 36)) <|
  .nil
def Q34_9 : AT := .q (.op 0 (some 40) (.mv (.t 5)) <|
  .op 1 (some 41) (.faddr 3 (.t 3)) <|
  .op 2 (some 42) (.loadS (.t 41)) <|
  .op 3 (some 43) (.mv (.t 7)) <|
  .op 4 (some 44) (.bin .sub (.t 43) (.c (.int .i64 1))) <|
  .op 5 (some 45) (.iaddrS 1 (.t 42) (.t 44)) <|
  .op 6 (some 46) (.loadI .i64 (.t 45)) <|
  .op 7 (some 47) (.faddr 3 (.t 3)) <|
  .op 8 (some 48) (.loadS (.t 47)) <|
  .op 9 (some 49) (.mv (.t 7)) <|
  .op 10 (some 50) (.iaddrS 1 (.t 48) (.t 49)) <|
  .op 11 (some 51) (.loadI .i64 (.t 50)) <|
  .nil) <|
  .s 12 (some 52) (.call 73 [(.t 40), (.t 46), (.t 51)]) true (
  .q (.nil) <|
  .fin) <|
  .no
def Q34_10 : Sts := .op (some 38) (.mv (.t 7)) <|
  .op (some 39) (.bin .add (.t 38) (.c (.int .i64 1))) <|
  .op (some 7) (.mv (.t 39)) <|
  .nil
def Q34_L11 : RCode := (.seq (.seq (.reg Q34_8) (.cond (.t 37) .skip (.exit 2))) (.seq (.block 3 (.any Q34_9)) (.reg Q34_10)))
def Q34_11 : Sts := .op (some 53) (.mv (.t 5)) <|
  .op (some 4) (.mv (.t 53)) <|
  .nil
def Q34 : RFun := ⟨54, [0, 1, 3, 4, 5, 6, 7], (.seq (.reg Q34_0) (.seq (.reg Q34_1) (.seq (.seq (.reg Q34_2) (.block 0 (.loop Q34_L7))) (.seq (.seq (.reg Q34_7) (.block 2 (.loop Q34_L11))) (.seq (.reg Q34_11) .ret))))), [.tmp 4]⟩
theorem Q34_ok : compF Try.prog [0, 1, 3, 4, 5, 6, 7] [16, 18, 23, 27, 30, 32, 36, 46, 49, 50, 43, 41, 66, 69, 71, 75, 78, 83, 99, 100, 101, 107, 108, 48, 58, 81, 82, 110, 111, 112] 72 = some Q34 := by kernel_rfl

/- (lockless/axiom.relation).put -/
def Q41_0 : AT := .q (.op 0 (some 6) (.mv (.t 0)) <|
  .op 1 (some 7) (.mv (.t 1)) <|
  .op 2 (some 8) (.iaddrS 1 (.t 6) (.t 7)) <|
  .op 3 (some 9) (.loadI .u32 (.t 8)) <|
  .op 4 (some 10) (.mv (.t 2)) <|
  .op 5 (some 11) (.bin .shl (.c (.int .u32 1)) (.t 10)) <|
  .op 6 (some 12) (.bin .or (.t 9) (.t 11)) <|
  .op 7 (some 13) (.iaddrS 1 (.t 6) (.t 7)) <|
  .nil) <|
  .s 8 none (.store 1 (.t 13) (.t 12)) true (
  .q (.nil) <|
  .fin) <|
  .no
def Q41 : RFun := ⟨14, [0, 1, 2], (.any Q41_0), []⟩
theorem Q41_ok : compF Try.prog [0, 1, 2] [16, 18, 23, 27, 30, 32, 36, 46, 49, 50, 43, 41, 66, 69, 71, 75, 78, 83, 99, 100, 101, 107, 108, 48, 58, 81, 82, 110, 111, 112] 73 = some Q41 := by kernel_rfl

/- (lockless/axiom.relation).close -/
def Q39_0 : Sts := .op (some 2) (.mv (.c (.slice none 0 0))) <|
  .nil
def Q39_1 : Sts := .op (some 5) (.mv (.t 0)) <|
  .op (some 6) (.len (.t 5)) <|
  .op (some 7) (.mv (.c (.int .i64 0))) <|
  .nil
def Q39_2 : Sts := .op (some 8) (.bin .lss (.t 7) (.t 6)) <|
  .nil
def Q39_3 : Sts := .op (some 9) (.mv (.t 7)) <|
  .op (some 3) (.mv (.t 9)) <|
  .nil
def Q39_4 : Sts := .op (some 10) (.mv (.t 0)) <|
  .op (some 11) (.len (.t 10)) <|
  .op (some 12) (.mv (.c (.int .i64 0))) <|
  .nil
def Q39_5 : Sts := .op (some 13) (.bin .lss (.t 12) (.t 11)) <|
  .nil
def Q39_6 : Sts := .op (some 14) (.mv (.t 12)) <|
  .op (some 4) (.mv (.t 14)) <|
  .nil
def Q39_7 : Sts := .op (some 15) (.mv (.t 0)) <|
  .op (some 16) (.mv (.t 4)) <|
  .op (some 17) (.mv (.t 3)) <|
  .op (some 18) (.call 78 [(.t 15), (.t 16), (.t 17)]) <|
  .nil
def Q39_8 : AT := .q (.op 0 (some 19) (.mv (.t 0)) <|
  .op 1 (some 20) (.mv (.t 4)) <|
  .op 2 (some 21) (.iaddrS 1 (.t 19) (.t 20)) <|
  .op 3 (some 22) (.loadI .u32 (.t 21)) <|
  .op 4 (some 23) (.mv (.t 0)) <|
  .op 5 (some 24) (.mv (.t 3)) <|
  .op 6 (some 25) (.iaddrS 1 (.t 23) (.t 24)) <|
  .op 7 (some 26) (.loadI .u32 (.t 25)) <|
  .op 8 (some 27) (.bin .or (.t 22) (.t 26)) <|
  .op 9 (some 28) (.iaddrS 1 (.t 19) (.t 20)) <|
  .nil) <|
  .s 10 none (.store 1 (.t 28) (.t 27)) true (
  .q (.nil) <|
  .fin) <|
  .no
def Q39_9 : Sts := .op (some 29) (.bin .add (.t 12) (.c (.int .i64 1))) <|
  .op (some 12) (.mv (.t 29)) <|
  .nil
def Q39_L10 : RCode := (.seq (.reg Q39_5) (.seq (.cond (.t 13) .skip (.exit 2)) (.seq (.block 3 (.seq (.reg Q39_6) (.seq (.reg Q39_7) (.cond (.t 18) (.any Q39_8) .skip)))) (.reg Q39_9))))
def Q39_10 : Sts := .op (some 30) (.bin .add (.t 7) (.c (.int .i64 1))) <|
  .op (some 7) (.mv (.t 30)) <|
  .nil
def Q39_L11 : RCode := (.seq (.reg Q39_2) (.seq (.cond (.t 8) .skip (.exit 0)) (.seq (.block 1 (.seq (.reg Q39_3) (.seq (.reg Q39_4) (.block 2 (.loop Q39_L10))))) (.reg Q39_10))))
def Q39_11 : Sts := .op (some 31) (.mv (.t 0)) <|
  .op (some 2) (.mv (.t 31)) <|
  .nil
def Q39 : RFun := ⟨32, [0, 2, 3, 4, 6, 7, 11, 12], (.seq (.reg Q39_0) (.seq (.seq (.reg Q39_1) (.block 0 (.loop Q39_L11))) (.seq (.reg Q39_11) .ret))), [.tmp 2]⟩
theorem Q39_ok : compF Try.prog [0, 2, 3, 4, 6, 7, 11, 12] [16, 18, 23, 27, 30, 32, 36, 46, 49, 50, 43, 41, 66, 69, 71, 75, 78, 83, 99, 100, 101, 107, 108, 48, 58, 81, 82, 110, 111, 112] 74 = some Q39 := by kernel_rfl

/- (lockless/axiom.relation).circle -/
def Q38_0 : Sts := .op (some 2) (.mv (.c (.bool false))) <|
  .nil
def Q38_1 : Sts := .op (some 4) (.mv (.t 0)) <|
  .op (some 5) (.len (.t 4)) <|
  .op (some 6) (.mv (.c (.int .i64 0))) <|
  .nil
def Q38_2 : Sts := .op (some 7) (.bin .lss (.t 6) (.t 5)) <|
  .nil
def Q38_3 : Sts := .op (some 8) (.mv (.t 6)) <|
  .op (some 3) (.mv (.t 8)) <|
  .nil
def Q38_4 : Sts := .op (some 9) (.mv (.t 0)) <|
  .op (some 10) (.mv (.t 3)) <|
  .op (some 11) (.mv (.t 3)) <|
  .op (some 12) (.call 78 [(.t 9), (.t 10), (.t 11)]) <|
  .nil
def Q38_5 : Sts := .op (some 2) (.mv (.c (.bool true))) <|
  .nil
def Q38_6 : Sts := .op (some 13) (.bin .add (.t 6) (.c (.int .i64 1))) <|
  .op (some 6) (.mv (.t 13)) <|
  .nil
def Q38_L7 : RCode := (.seq (.reg Q38_2) (.seq (.cond (.t 7) .skip (.exit 0)) (.seq (.block 1 (.seq (.reg Q38_3) (.seq (.reg Q38_4) (.cond (.t 12) (.seq (.reg Q38_5) .ret) .skip)))) (.reg Q38_6))))
def Q38_7 : Sts := .op (some 2) (.mv (.c (.bool false))) <|
  .nil
def Q38 : RFun := ⟨14, [0, 2, 3, 5, 6], (.seq (.reg Q38_0) (.seq (.seq (.reg Q38_1) (.block 0 (.loop Q38_L7))) (.seq (.reg Q38_7) .ret))), [.tmp 2]⟩
theorem Q38_ok : compF Try.prog [0, 2, 3, 5, 6] [16, 18, 23, 27, 30, 32, 36, 46, 49, 50, 43, 41, 66, 69, 71, 75, 78, 83, 99, 100, 101, 107, 108, 48, 58, 81, 82, 110, 111, 112] 75 = some Q38 := by kernel_rfl

/- (lockless/axiom.program).before -/
def Q9_0 : Sts := .op (some 3) (.box 57 (.t 1)) <|
  .op (some 4) (.mv (.c (.slice none 0 0))) <|
  .nil
def Q9_1 : Sts := .op (some 11) (.mv (.t 0)) <|
  .op (some 12) (.loadA 4 (.t 3)) <|
  .op (some 13) (.call 72 [(.t 11), (.t 12)]) <|
  .op (some 5) (.mv (.t 13)) <|
  .nil
def Q9_2 : Sts := .op (some 14) (.mv (.t 0)) <|
  .op (some 15) (.len (.t 14)) <|
  .op (some 16) (.mv (.c (.int .i64 0))) <|
  .nil
def Q9_3 : Sts := .op (some 17) (.bin .lss (.t 16) (.t 15)) <|
  .nil
def Q9_4 : Sts := .op (some 18) (.mv (.t 16)) <|
  .op (some 6) (.mv (.t 18)) <|
  .nil
def Q9_5 : Sts := .op (some 19) (.mv (.t 0)) <|
  .op (some 20) (.mv (.t 6)) <|
  .op (some 21) (.iaddrS 6 (.t 19) (.t 20)) <|
  .op (some 22) (.loadA 6 (.t 21)) <|
  .op (some 23) (.call 46 [(.t 22)]) <|
  .op (some 24) (.notb (.t 23)) <|
  .op (some 25) (.mv (.t 24)) <|
  .cnd 25 false (
  .op (some 26) (.faddr 0 (.t 3)) <|
  .op (some 27) (.loadS (.t 26)) <|
  .op (some 28) (.mv (.t 6)) <|
  .op (some 29) (.iaddrS 1 (.t 27) (.t 28)) <|
  .op (some 30) (.loadI .i64 (.t 29)) <|
  .op (some 31) (.bin .lss (.t 30) (.c (.int .i64 0))) <|
  .nil) 32 (.t 31) <|
  .nil
def Q9_6 : Sts := .op (some 7) (.mv (.c (.int .u32 0))) <|
  .nil
def Q9_7 : Sts := .op (some 33) (.faddr 0 (.t 3)) <|
  .op (some 34) (.loadS (.t 33)) <|
  .op (some 35) (.mv (.t 6)) <|
  .op (some 36) (.iaddrS 1 (.t 34) (.t 35)) <|
  .op (some 37) (.loadI .i64 (.t 36)) <|
  .op (some 8) (.mv (.t 37)) <|
  .nil
def Q9_8 : Sts := .op (some 38) (.mv (.t 0)) <|
  .op (some 39) (.len (.t 38)) <|
  .op (some 40) (.mv (.c (.int .i64 0))) <|
  .nil
def Q9_9 : Sts := .op (some 41) (.bin .lss (.t 40) (.t 39)) <|
  .nil
def Q9_10 : Sts := .op (some 42) (.mv (.t 7)) <|
  .op (some 43) (.mv (.t 0)) <|
  .op (some 44) (.mv (.t 8)) <|
  .op (some 45) (.call 99 [(.t 43), (.t 44)]) <|
  .op (some 46) (.bin .or (.t 42) (.t 45)) <|
  .op (some 7) (.mv (.t 46)) <|
  .nil
def Q9_11 : Sts := .op (some 47) (.mv (.t 0)) <|
  .op (some 48) (.loadA 4 (.t 3)) <|
  .op (some 49) (.mv (.t 8)) <|
  .op (some 50) (.call 100 [(.t 47), (.t 48), (.t 49)]) <|
  .op (some 51) (.notb (.t 50)) <|
  .op (some 52) (.mv (.t 51)) <|
  .cnd 52 false (
  .op (some 53) (.faddr 0 (.t 3)) <|
  .op (some 54) (.loadS (.t 53)) <|
  .op (some 55) (.mv (.t 8)) <|
  .op (some 56) (.iaddrS 1 (.t 54) (.t 55)) <|
  .op (some 57) (.loadI .i64 (.t 56)) <|
  .op (some 58) (.bin .lss (.t 57) (.c (.int .i64 0))) <|
  .nil) 59 (.t 58) <|
  .nil
def Q9_12 : Sts := .op (some 60) (.faddr 0 (.t 3)) <|
  .op (some 61) (.loadS (.t 60)) <|
  .op (some 62) (.mv (.t 8)) <|
  .op (some 63) (.iaddrS 1 (.t 61) (.t 62)) <|
  .op (some 64) (.loadI .i64 (.t 63)) <|
  .op (some 8) (.mv (.t 64)) <|
  .nil
def Q9_13 : Sts := .op (some 65) (.bin .add (.t 40) (.c (.int .i64 1))) <|
  .op (some 40) (.mv (.t 65)) <|
  .nil
def Q9_L14 : RCode := (.seq (.reg Q9_9) (.seq (.cond (.t 41) .skip (.exit 2)) (.seq (.block 3 (.seq (.reg Q9_10) (.seq (.seq (.reg Q9_11) (.cond (.t 59) (.exit 2) .skip)) (.reg Q9_12)))) (.reg Q9_13))))
def Q9_14 : Sts := .op (some 66) (.mv (.t 0)) <|
  .op (some 67) (.mv (.t 6)) <|
  .op (some 68) (.call 101 [(.t 66), (.t 67)]) <|
  .op (some 9) (.mv (.t 68)) <|
  .nil
def Q9_15 : Sts := .op (some 69) (.mv (.t 0)) <|
  .op (some 70) (.len (.t 69)) <|
  .op (some 71) (.mv (.c (.int .i64 0))) <|
  .nil
def Q9_16 : Sts := .op (some 72) (.bin .lss (.t 71) (.t 70)) <|
  .nil
def Q9_17 : Sts := .op (some 73) (.mv (.t 71)) <|
  .op (some 10) (.mv (.t 73)) <|
  .nil
def Q9_18 : Sts := .op (some 74) (.mv (.t 7)) <|
  .op (some 75) (.mv (.t 10)) <|
  .op (some 76) (.bin .shr (.t 74) (.t 75)) <|
  .op (some 77) (.bin .and (.t 76) (.c (.int .u32 1))) <|
  .op (some 78) (.bin .eql (.t 77) (.c (.int .u32 1))) <|
  .nil
def Q9_19 : Sts := .op (some 79) (.mv (.t 5)) <|
  .op (some 80) (.mv (.t 10)) <|
  .op (some 81) (.iaddrS 1 (.t 79) (.t 80)) <|
  .op (some 82) (.loadI .u32 (.t 81)) <|
  .op (some 83) (.mv (.t 9)) <|
  .op (some 84) (.bin .or (.t 82) (.t 83)) <|
  .op (some 85) (.iaddrS 1 (.t 79) (.t 80)) <|
  .op none (.store 1 (.t 85) (.t 84)) <|
  .nil
def Q9_20 : Sts := .op (some 86) (.bin .add (.t 71) (.c (.int .i64 1))) <|
  .op (some 71) (.mv (.t 86)) <|
  .nil
def Q9_L21 : RCode := (.seq (.reg Q9_16) (.seq (.cond (.t 72) .skip (.exit 4)) (.seq (.block 5 (.seq (.reg Q9_17) (.seq (.reg Q9_18) (.cond (.t 78) (.reg Q9_19) .skip)))) (.reg Q9_20))))
def Q9_21 : Sts := .op (some 87) (.bin .add (.t 16) (.c (.int .i64 1))) <|
  .op (some 16) (.mv (.t 87)) <|
  .nil
def Q9_L22 : RCode := (.seq (.reg Q9_3) (.seq (.cond (.t 17) .skip (.exit 0)) (.seq (.block 1 (.seq (.reg Q9_4) (.seq (.seq (.reg Q9_5) (.cond (.t 32) (.exit 1) .skip)) (.seq (.reg Q9_6) (.seq (.reg Q9_7) (.seq (.seq (.reg Q9_8) (.block 2 (.loop Q9_L14))) (.seq (.reg Q9_14) (.seq (.reg Q9_15) (.block 4 (.loop Q9_L21)))))))))) (.reg Q9_21))))
def Q9_22 : Sts := .op (some 88) (.mv (.t 5)) <|
  .op (some 89) (.call 74 [(.t 88)]) <|
  .op (some 4) (.mv (.t 89)) <|
  .nil
def Q9 : RFun := ⟨90, [0, 1, 3, 4, 5, 6, 7, 8, 9, 10, 15, 16, 39, 40, 70, 71], (.seq (.reg Q9_0) (.seq (.reg Q9_1) (.seq (.seq (.reg Q9_2) (.block 0 (.loop Q9_L22))) (.seq (.reg Q9_22) .ret)))), [.tmp 4]⟩
theorem Q9_ok : compF Try.prog [0, 1, 3, 4, 5, 6, 7, 8, 9, 10, 15, 16, 39, 40, 70, 71] [16, 18, 23, 27, 30, 32, 36, 46, 49, 50, 43, 41, 66, 69, 71, 75, 78, 83, 99, 100, 101, 107, 108, 48, 58, 81, 82, 110, 111, 112] 76 = some Q9 := by kernel_rfl

/- (lockless/axiom.program).communication -/
def Q11_0 : Sts := .op (some 3) (.box 57 (.t 1)) <|
  .op (some 4) (.mv (.c (.slice none 0 0))) <|
  .nil
def Q11_1 : Sts := .op (some 17) (.mv (.t 0)) <|
  .op (some 18) (.call 98 [(.t 17)]) <|
  .op (some 5) (.mv (.t 18)) <|
  .nil
def Q11_2 : Sts := .op (some 19) (.faddr 2 (.t 3)) <|
  .op (some 20) (.loadS (.t 19)) <|
  .op (some 21) (.len (.t 20)) <|
  .op (some 22) (.mv (.c (.int .i64 0))) <|
  .nil
def Q11_3 : Sts := .op (some 23) (.bin .lss (.t 22) (.t 21)) <|
  .nil
def Q11_4 : Sts := .op (some 24) (.iaddrS 1 (.t 20) (.t 22)) <|
  .op (some 25) (.loadS (.t 24)) <|
  .op (some 7) (.mv (.t 25)) <|
  .nil
def Q11_5 : Sts := .op (some 26) (.mv (.t 7)) <|
  .op (some 27) (.len (.t 26)) <|
  .op (some 28) (.mv (.c (.int .i64 0))) <|
  .nil
def Q11_6 : Sts := .op (some 29) (.bin .lss (.t 28) (.t 27)) <|
  .nil
def Q11_7 : Sts := .op (some 30) (.mv (.t 28)) <|
  .op (some 31) (.iaddrS 1 (.t 26) (.t 28)) <|
  .op (some 32) (.loadI .i64 (.t 31)) <|
  .op (some 8) (.mv (.t 30)) <|
  .op (some 9) (.mv (.t 32)) <|
  .nil
def Q11_8 : Sts := .op (some 33) (.mv (.t 7)) <|
  .op (some 34) (.mv (.t 8)) <|
  .op (some 35) (.bin .add (.t 34) (.c (.int .i64 1))) <|
  .op (some 36) (.slS 1 (.t 33) (some (.t 35)) none none) <|
  .op (some 37) (.len (.t 36)) <|
  .op (some 38) (.mv (.c (.int .i64 0))) <|
  .nil
def Q11_9 : Sts := .op (some 39) (.bin .lss (.t 38) (.t 37)) <|
  .nil
def Q11_10 : Sts := .op (some 40) (.iaddrS 1 (.t 36) (.t 38)) <|
  .op (some 41) (.loadI .i64 (.t 40)) <|
  .op (some 11) (.mv (.t 41)) <|
  .nil
def Q11_11 : Sts := .op (some 42) (.mv (.t 5)) <|
  .op (some 43) (.mv (.t 9)) <|
  .op (some 44) (.mv (.t 11)) <|
  .op (some 45) (.call 73 [(.t 42), (.t 43), (.t 44)]) <|
  .nil
def Q11_12 : Sts := .op (some 46) (.bin .add (.t 38) (.c (.int .i64 1))) <|
  .op (some 38) (.mv (.t 46)) <|
  .nil
def Q11_L13 : RCode := (.seq (.reg Q11_9) (.seq (.cond (.t 39) .skip (.exit 4)) (.seq (.block 5 (.seq (.reg Q11_10) (.reg Q11_11))) (.reg Q11_12))))
def Q11_13 : Sts := .op (some 47) (.bin .add (.t 28) (.c (.int .i64 1))) <|
  .op (some 28) (.mv (.t 47)) <|
  .nil
def Q11_L14 : RCode := (.seq (.reg Q11_6) (.seq (.cond (.t 29) .skip (.exit 2)) (.seq (.block 3 (.seq (.reg Q11_7) (.seq (.reg Q11_8) (.block 4 (.loop Q11_L13))))) (.reg Q11_13))))
def Q11_14 : Sts := .op (some 48) (.bin .add (.t 22) (.c (.int .i64 1))) <|
  .op (some 22) (.mv (.t 48)) <|
  .nil
def Q11_L15 : RCode := (.seq (.reg Q11_3) (.seq (.cond (.t 23) .skip (.exit 0)) (.seq (.block 1 (.seq (.reg Q11_4) (.seq (.reg Q11_5) (.block 2 (.loop Q11_L14))))) (.reg Q11_14))))
def Q11_15 : Sts := .op (some 49) (.faddr 0 (.t 3)) <|
  .op (some 50) (.loadS (.t 49)) <|
  .op (some 51) (.len (.t 50)) <|
  .op (some 52) (.mv (.c (.int .i64 0))) <|
  .nil
def Q11_16 : Sts := .op (some 53) (.bin .lss (.t 52) (.t 51)) <|
  .nil
def Q11_17 : Sts := .op (some 54) (.mv (.t 52)) <|
  .op (some 55) (.iaddrS 1 (.t 50) (.t 52)) <|
  .op (some 56) (.loadI .i64 (.t 55)) <|
  .op (some 12) (.mv (.t 54)) <|
  .op (some 13) (.mv (.t 56)) <|
  .nil
def Q11_18 : Sts := .op (some 57) (.mv (.t 0)) <|
  .op (some 58) (.mv (.t 12)) <|
  .op (some 59) (.iaddrS 6 (.t 57) (.t 58)) <|
  .op (some 60) (.loadA 6 (.t 59)) <|
  .op (some 61) (.call 46 [(.t 60)]) <|
  .op (some 62) (.notb (.t 61)) <|
  .nil
def Q11_19 : Sts := .op (some 63) (.mv (.t 13)) <|
  .op (some 64) (.bin .geq (.t 63) (.c (.int .i64 0))) <|
  .nil
def Q11_20 : Sts := .op (some 65) (.mv (.t 5)) <|
  .op (some 66) (.mv (.t 13)) <|
  .op (some 67) (.mv (.t 12)) <|
  .op (some 68) (.call 73 [(.t 65), (.t 66), (.t 67)]) <|
  .nil
def Q11_21 : Sts := .op (some 69) (.mv (.t 13)) <|
  .op (some 70) (.bin .eql (.t 69) (.c (.int .i64 (-1)))) <|
  .op (some 14) (.mv (.t 70)) <|
  .nil
def Q11_22 : AT := .q (.op 0 (some 71) (.faddr 2 (.t 3)) <|
  .op 1 (some 72) (.loadS (.t 71)) <|
  .op 2 (some 73) (.mv (.t 0)) <|
  .op 3 (some 74) (.mv (.t 12)) <|
  .op 4 (some 75) (.iaddrS 6 (.t 73) (.t 74)) <|
  .op 5 (some 76) (.faddr 0 (.t 75)) <|
  .op 6 (some 77) (.faddr 1 (.t 76)) <|
  .op 7 (some 78) (.loadI .i64 (.t 77)) <|
  .op 8 (some 79) (.iaddrS 1 (.t 72) (.t 78)) <|
  .op 9 (some 80) (.loadS (.t 79)) <|
  .op 10 (some 81) (.len (.t 80)) <|
  .op 11 (some 82) (.mv (.c (.int .i64 0))) <|
  .nil) <|
  .fin
def Q11_23 : Sts := .op (some 83) (.bin .lss (.t 82) (.t 81)) <|
  .nil
def Q11_24 : Sts := .op (some 84) (.iaddrS 1 (.t 80) (.t 82)) <|
  .op (some 85) (.loadI .i64 (.t 84)) <|
  .op (some 16) (.mv (.t 85)) <|
  .nil
def Q11_25 : Sts := .op (some 86) (.mv (.t 14)) <|
  .op (some 87) (.mv (.t 86)) <|
  .cnd 87 true (
  .op (some 88) (.mv (.t 16)) <|
  .op (some 89) (.mv (.t 12)) <|
  .op (some 90) (.bin .neq (.t 88) (.t 89)) <|
  .nil) 91 (.t 90) <|
  .nil
def Q11_26 : Sts := .op (some 92) (.mv (.t 5)) <|
  .op (some 93) (.mv (.t 12)) <|
  .op (some 94) (.mv (.t 16)) <|
  .op (some 95) (.call 73 [(.t 92), (.t 93), (.t 94)]) <|
  .nil
def Q11_27 : Sts := .op (some 96) (.mv (.t 14)) <|
  .op (some 97) (.mv (.t 96)) <|
  .cnd 97 false (
  .op (some 98) (.mv (.t 16)) <|
  .op (some 99) (.mv (.t 13)) <|
  .op (some 100) (.bin .eql (.t 98) (.t 99)) <|
  .nil) 101 (.t 100) <|
  .op (some 14) (.mv (.t 101)) <|
  .nil
def Q11_28 : Sts := .op (some 102) (.bin .add (.t 82) (.c (.int .i64 1))) <|
  .op (some 82) (.mv (.t 102)) <|
  .nil
def Q11_L29 : RCode := (.seq (.reg Q11_23) (.seq (.cond (.t 83) .skip (.exit 8)) (.seq (.block 9 (.seq (.reg Q11_24) (.seq (.seq (.reg Q11_25) (.cond (.t 91) (.reg Q11_26) .skip)) (.reg Q11_27)))) (.reg Q11_28))))
def Q11_29 : Sts := .op (some 103) (.bin .add (.t 52) (.c (.int .i64 1))) <|
  .op (some 52) (.mv (.t 103)) <|
  .nil
def Q11_L30 : RCode := (.seq (.reg Q11_16) (.seq (.cond (.t 53) .skip (.exit 6)) (.seq (.block 7 (.seq (.reg Q11_17) (.seq (.seq (.reg Q11_18) (.cond (.t 62) (.exit 7) .skip)) (.seq (.seq (.reg Q11_19) (.cond (.t 64) (.reg Q11_20) .skip)) (.seq (.reg Q11_21) (.seq (.any Q11_22) (.block 8 (.loop Q11_L29)))))))) (.reg Q11_29))))
def Q11_30 : Sts := .op (some 104) (.mv (.t 5)) <|
  .op (some 105) (.call 74 [(.t 104)]) <|
  .op (some 4) (.mv (.t 105)) <|
  .nil
def Q11 : RFun := ⟨106, [0, 1, 3, 4, 5, 7, 8, 9, 11, 12, 13, 14, 16, 20, 21, 22, 26, 27, 28, 36, 37, 38, 50, 51, 52, 80, 81, 82], (.seq (.reg Q11_0) (.seq (.reg Q11_1) (.seq (.seq (.reg Q11_2) (.block 0 (.loop Q11_L15))) (.seq (.seq (.reg Q11_15) (.block 6 (.loop Q11_L30))) (.seq (.reg Q11_30) .ret))))), [.tmp 4]⟩
theorem Q11_ok : compF Try.prog [0, 1, 3, 4, 5, 7, 8, 9, 11, 12, 13, 14, 16, 20, 21, 22, 26, 27, 28, 36, 37, 38, 50, 51, 52, 80, 81, 82] [16, 18, 23, 27, 30, 32, 36, 46, 49, 50, 43, 41, 66, 69, 71, 75, 78, 83, 99, 100, 101, 107, 108, 48, 58, 81, 82, 110, 111, 112] 77 = some Q11 := by kernel_rfl

/- (lockless/axiom.relation).has -/
def Q40_0 : Sts := .op (some 6) (.mv (.c (.bool false))) <|
  .nil
def Q40_1 : Sts := .op (some 7) (.mv (.t 0)) <|
  .op (some 8) (.mv (.t 1)) <|
  .op (some 9) (.iaddrS 1 (.t 7) (.t 8)) <|
  .op (some 10) (.loadI .u32 (.t 9)) <|
  .op (some 11) (.mv (.t 2)) <|
  .op (some 12) (.bin .shr (.t 10) (.t 11)) <|
  .op (some 13) (.bin .and (.t 12) (.c (.int .u32 1))) <|
  .op (some 14) (.bin .eql (.t 13) (.c (.int .u32 1))) <|
  .op (some 6) (.mv (.t 14)) <|
  .nil
def Q40 : RFun := ⟨15, [0, 1, 2, 6], (.seq (.reg Q40_0) (.seq (.reg Q40_1) .ret)), [.tmp 6]⟩
theorem Q40_ok : compF Try.prog [0, 1, 2, 6] [16, 18, 23, 27, 30, 32, 36, 46, 49, 50, 43, 41, 66, 69, 71, 75, 78, 83, 99, 100, 101, 107, 108, 48, 58, 81, 82, 110, 111, 112] 78 = some Q40 := by kernel_rfl

/- slices.Clone[[]bool,bool] -/
def Q81_0 : Sts := .op (some 2) (.mv (.c (.slice none 0 0))) <|
  .nil
def Q81_1 : Sts := .op (some 3) (.mv (.t 0)) <|
  .op (some 4) (.eqS false (.t 3)) <|
  .nil
def Q81_2 : Sts := .op (some 2) (.mv (.c (.slice none 0 0))) <|
  .nil
def Q81_3 : Sts := .op (some 5) (.buildSl 4 0 [] []) <|
  .op (some 6) (.mv (.t 0)) <|
  .op (some 7) (.append 4 1 1 [(.bool false)] (.t 5) (.t 6)) <|
  .op (some 2) (.mv (.t 7)) <|
  .nil
def Q81 : RFun := ⟨8, [0, 2], (.seq (.reg Q81_0) (.seq (.seq (.reg Q81_1) (.cond (.t 4) (.seq (.reg Q81_2) .ret) .skip)) (.seq (.reg Q81_3) .ret))), [.tmp 2]⟩
theorem Q81_ok : compF Try.prog [0, 2] [16, 18, 23, 27, 30, 32, 36, 46, 49, 50, 43, 41, 66, 69, 71, 75, 78, 83, 99, 100, 101, 107, 108, 48, 58, 81, 82, 110, 111, 112] 79 = some Q81 := by kernel_rfl

/- slices.Max[[]int,int] -/
def Q91_0 : Sts := .op (some 2) (.mv (.c (.int .i64 0))) <|
  .nil
def Q91_1 : Sts := .op (some 5) (.mv (.t 0)) <|
  .op (some 6) (.len (.t 5)) <|
  .op (some 7) (.bin .lss (.t 6) (.c (.int .i64 1))) <|
  .nil
def Q91_2 : Sts := .op (some 8) (.bad) <|
  .op none (.bad) <|
  .nil
def Q91_3 : Sts := .op (some 9) (.mv (.t 0)) <|
  .op (some 10) (.iaddrS 1 (.t 9) (.c (.int .i64 0))) <|
  .op (some 11) (.loadI .i64 (.t 10)) <|
  .op (some 3) (.mv (.t 11)) <|
  .nil
def Q91_4 : Sts := .op (some 4) (.mv (.c (.int .i64 1))) <|
  .nil
def Q91_5 : Sts := .op (some 12) (.mv (.t 4)) <|
  .op (some 13) (.mv (.t 0)) <|
  .op (some 14) (.len (.t 13)) <|
  .op (some 15) (.bin .lss (.t 12) (.t 14)) <|
  .nil
def Q91_6 : Sts := .op (some 18) (.mv (.t 3)) <|
  .op (some 19) (.mv (.t 0)) <|
  .op (some 20) (.mv (.t 4)) <|
  .op (some 21) (.iaddrS 1 (.t 19) (.t 20)) <|
  .op (some 22) (.loadI .i64 (.t 21)) <|
  .op (some 23) (.maxi (.t 18) (.t 22)) <|
  .op (some 3) (.mv (.t 23)) <|
  .nil
def Q91_7 : Sts := .op (some 16) (.mv (.t 4)) <|
  .op (some 17) (.bin .add (.t 16) (.c (.int .i64 1))) <|
  .op (some 4) (.mv (.t 17)) <|
  .nil
def Q91_L8 : RCode := (.seq (.seq (.reg Q91_5) (.cond (.t 15) .skip (.exit 0))) (.seq (.block 1 (.reg Q91_6)) (.reg Q91_7)))
def Q91_8 : Sts := .op (some 24) (.mv (.t 3)) <|
  .op (some 2) (.mv (.t 24)) <|
  .nil
def Q91 : RFun := ⟨25, [0, 2, 3, 4], (.seq (.reg Q91_0) (.seq (.seq (.reg Q91_1) (.cond (.t 7) (.reg Q91_2) .skip)) (.seq (.reg Q91_3) (.seq (.seq (.reg Q91_4) (.block 0 (.loop Q91_L8))) (.seq (.reg Q91_8) .ret))))), [.tmp 2]⟩
theorem Q91_ok : compF Try.prog [0, 2, 3, 4] [16, 18, 23, 27, 30, 32, 36, 46, 49, 50, 43, 41, 66, 69, 71, 75, 78, 83, 99, 100, 101, 107, 108, 48, 58, 81, 82, 110, 111, 112] 80 = some Q91 := by kernel_rfl

/- lockless/order.isOrder -/
def Q78_0 : Sts := .op (some 2) (.mv (.c (.bool false))) <|
  .nil
def Q78_1 : Sts := .op (some 3) (.mv (.t 0)) <|
  .op (some 4) (.bin .geq (.t 3) (.c (.int .i64 0))) <|
  .op (some 5) (.mv (.t 4)) <|
  .cnd 5 true (
  .op (some 6) (.mv (.t 0)) <|
  .op (some 7) (.bin .lss (.t 6) (.c (.int .i64 5))) <|
  .nil) 8 (.t 7) <|
  .op (some 2) (.mv (.t 8)) <|
  .nil
def Q78 : RFun := ⟨9, [0, 2], (.seq (.reg Q78_0) (.seq (.reg Q78_1) .ret)), [.tmp 2]⟩
theorem Q78_ok : compF Try.prog [0, 2] [16, 18, 23, 27, 30, 32, 36, 46, 49, 50, 43, 41, 66, 69, 71, 75, 78, 83, 99, 100, 101, 107, 108, 48, 58, 81, 82, 110, 111, 112] 81 = some Q78 := by kernel_rfl

/- lockless/order.may -/
def Q79_0 : Sts := .op (some 4) (.mv (.c (.bool false))) <|
  .nil
def Q79_1 : Sts := .op (some 5) (.mv (.t 0)) <|
  .nil
def Q79_2 : Sts := .op (some 7) (.bin .eql (.t 5) (.c (.int .i64 0))) <|
  .op (some 6) (.mv (.t 7)) <|
  .nil
def Q79_3 : Sts := .op (some 8) (.mv (.t 1)) <|
  .op (some 9) (.bin .neq (.t 8) (.c (.int .i64 2))) <|
  .op (some 10) (.mv (.t 9)) <|
  .cnd 10 true (
  .op (some 11) (.mv (.t 1)) <|
  .op (some 12) (.bin .neq (.t 11) (.c (.int .i64 3))) <|
  .nil) 13 (.t 12) <|
  .op (some 4) (.mv (.t 13)) <|
  .nil
def Q79_4 : Sts := .op (some 15) (.bin .eql (.t 5) (.c (.int .i64 1))) <|
  .op (some 14) (.mv (.t 15)) <|
  .nil
def Q79_5 : Sts := .op (some 16) (.mv (.t 1)) <|
  .op (some 17) (.bin .neq (.t 16) (.c (.int .i64 1))) <|
  .op (some 18) (.mv (.t 17)) <|
  .cnd 18 true (
  .op (some 19) (.mv (.t 1)) <|
  .op (some 20) (.bin .neq (.t 19) (.c (.int .i64 3))) <|
  .nil) 21 (.t 20) <|
  .op (some 4) (.mv (.t 21)) <|
  .nil
def Q79_6 : Sts := .op (some 23) (.bin .eql (.t 5) (.c (.int .i64 5))) <|
  .op (some 22) (.mv (.t 23)) <|
  .nil
def Q79_7 : Sts := .op (some 24) (.mv (.t 1)) <|
  .op (some 25) (.bin .neq (.t 24) (.c (.int .i64 0))) <|
  .op (some 4) (.mv (.t 25)) <|
  .nil
def Q79_8 : Sts := .op (some 4) (.mv (.c (.bool true))) <|
  .nil
def Q79 : RFun := ⟨26, [0, 1, 4, 5], (.seq (.reg Q79_0) (.seq (.seq (.reg Q79_1) (.block 0 (.seq (.reg Q79_2) (.cond (.t 6) (.seq (.reg Q79_3) .ret) (.seq (.reg Q79_4) (.cond (.t 14) (.seq (.reg Q79_5) .ret) (.seq (.reg Q79_6) (.cond (.t 22) (.seq (.reg Q79_7) .ret) .skip)))))))) (.seq (.reg Q79_8) .ret))), [.tmp 4]⟩
theorem Q79_ok : compF Try.prog [0, 1, 4, 5] [16, 18, 23, 27, 30, 32, 36, 46, 49, 50, 43, 41, 66, 69, 71, 75, 78, 83, 99, 100, 101, 107, 108, 48, 58, 81, 82, 110, 111, 112] 82 = some Q79 := by kernel_rfl

/- lockless/litmus.digit -/
def Q50_0 : Sts := .op (some 2) (.mv (.c (.bool false))) <|
  .nil
def Q50_1 : Sts := .op (some 3) (.mv (.t 0)) <|
  .op (some 4) (.bin .geq (.t 3) (.c (.int .i64 0))) <|
  .op (some 5) (.mv (.t 4)) <|
  .cnd 5 true (
  .op (some 6) (.mv (.t 0)) <|
  .op (some 7) (.bin .leq (.t 6) (.c (.int .i64 9))) <|
  .nil) 8 (.t 7) <|
  .op (some 2) (.mv (.t 8)) <|
  .nil
def Q50 : RFun := ⟨9, [0, 2], (.seq (.reg Q50_0) (.seq (.reg Q50_1) .ret)), [.tmp 2]⟩
theorem Q50_ok : compF Try.prog [0, 2] [16, 18, 23, 27, 30, 32, 36, 46, 49, 50, 43, 41, 66, 69, 71, 75, 78, 83, 99, 100, 101, 107, 108, 48, 58, 81, 82, 110, 111, 112] 83 = some Q50 := by kernel_rfl

/- slices.Grow[[]int,int] -/
def Q88_0 : Sts := .op (some 4) (.mv (.c (.slice none 0 0))) <|
  .nil
def Q88_1 : Sts := .op (some 5) (.mv (.t 1)) <|
  .op (some 6) (.bin .lss (.t 5) (.c (.int .i64 0))) <|
  .nil
def Q88_2 : Sts := .op (some 7) (.bad) <|
  .op none (.bad) <|
  .nil
def Q88_3 : Sts := .op (some 8) (.mv (.t 1)) <|
  .op (some 9) (.mv (.t 0)) <|
  .op (some 10) (.cap (.t 9)) <|
  .op (some 11) (.mv (.t 0)) <|
  .op (some 12) (.len (.t 11)) <|
  .op (some 13) (.bin .sub (.t 10) (.t 12)) <|
  .op (some 14) (.bin .sub (.t 8) (.t 13)) <|
  .op (some 1) (.mv (.t 14)) <|
  .nil
def Q88_4 : Sts := .op (some 15) (.mv (.t 1)) <|
  .op (some 16) (.bin .gtr (.t 15) (.c (.int .i64 0))) <|
  .nil
def Q88_5 : Sts := .op (some 17) (.mv (.t 0)) <|
  .op (some 18) (.mv (.t 0)) <|
  .op (some 19) (.cap (.t 18)) <|
  .op (some 20) (.slS 1 (.t 17) none (some (.t 19)) none) <|
  .op (some 21) (.mv (.t 1)) <|
  .op (some 22) (.appendZ 3 1 8 [(.int .i64 0)] (.t 20) (.t 21)) <|
  .op (some 23) (.mv (.t 0)) <|
  .op (some 24) (.len (.t 23)) <|
  .op (some 25) (.slS 1 (.t 22) none (some (.t 24)) none) <|
  .op (some 0) (.mv (.t 25)) <|
  .nil
def Q88_6 : Sts := .op (some 26) (.mv (.t 0)) <|
  .op (some 4) (.mv (.t 26)) <|
  .nil
def Q88 : RFun := ⟨27, [0, 1, 4], (.seq (.reg Q88_0) (.seq (.seq (.reg Q88_1) (.cond (.t 6) (.reg Q88_2) .skip)) (.seq (.seq (.reg Q88_3) (.seq (.reg Q88_4) (.cond (.t 16) (.reg Q88_5) .skip))) (.seq (.reg Q88_6) .ret)))), [.tmp 4]⟩
theorem Q88_ok : compF Try.prog [0, 1, 4] [16, 18, 23, 27, 30, 32, 36, 46, 49, 50, 43, 41, 66, 69, 71, 75, 78, 83, 99, 100, 101, 107, 108, 48, 58, 81, 82, 110, 111, 112] 84 = some Q88 := by kernel_rfl

/- cmp.isNaN[int] -/
def Q43_0 : Sts := .op (some 2) (.mv (.c (.bool false))) <|
  .nil
def Q43_1 : Sts := .op (some 3) (.mv (.t 0)) <|
  .op (some 4) (.mv (.t 0)) <|
  .op (some 5) (.bin .neq (.t 3) (.t 4)) <|
  .op (some 2) (.mv (.t 5)) <|
  .nil
def Q43 : RFun := ⟨6, [0, 2], (.seq (.reg Q43_0) (.seq (.reg Q43_1) .ret)), [.tmp 2]⟩
theorem Q43_ok : compF Try.prog [0, 2] [16, 18, 23, 27, 30, 32, 36, 46, 49, 50, 43, 41, 66, 69, 71, 75, 78, 83, 99, 100, 101, 107, 108, 48, 58, 81, 82, 110, 111, 112] 95 = some Q43 := by kernel_rfl

/- (lockless/axiom.program).writers$1 -/
def Q37_0 : Sts := .op (some 5) (.mv (.c (.bool false))) <|
  .nil
def Q37_1 : AT := .q (.op 0 (some 6) (.loadS (.t 1)) <|
  .op 1 (some 7) (.mv (.t 0)) <|
  .op 2 (some 8) (.iaddrS 6 (.t 6) (.t 7)) <|
  .op 3 (some 9) (.faddr 0 (.t 8)) <|
  .op 4 (some 10) (.faddr 0 (.t 9)) <|
  .op 5 (some 11) (.loadI .i64 (.t 10)) <|
  .op 6 (some 12) (.bin .neq (.t 11) (.c (.int .i64 5))) <|
  .op 7 (some 13) (.mv (.t 12)) <|
  .g 13 true (
  .op 8 (some 14) (.loadS (.t 2)) <|
  .op 9 (some 15) (.mv (.t 0)) <|
  .op 10 (some 16) (.iaddrS 1 (.t 14) (.t 15)) <|
  .op 11 (some 17) (.loadB (.t 16)) <|
  .nil) 12 18 (.t 17) <|
  .op 13 (some 19) (.mv (.t 18)) <|
  .g 19 true (
  .op 14 (some 20) (.loadS (.t 1)) <|
  .op 15 (some 21) (.mv (.t 0)) <|
  .op 16 (some 22) (.iaddrS 6 (.t 20) (.t 21)) <|
  .op 17 (some 23) (.faddr 0 (.t 22)) <|
  .op 18 (some 24) (.faddr 1 (.t 23)) <|
  .op 19 (some 25) (.loadI .i64 (.t 24)) <|
  .op 20 (some 26) (.loadI .i64 (.t 3)) <|
  .op 21 (some 27) (.bin .eql (.t 25) (.t 26)) <|
  .nil) 22 28 (.t 27) <|
  .op 23 (some 5) (.mv (.t 28)) <|
  .nil) <|
  .fin
def Q37 : RFun := ⟨29, [0, 1, 2, 3, 5], (.seq (.reg Q37_0) (.seq (.any Q37_1) .ret)), [.tmp 5]⟩
theorem Q37_ok : compF Try.prog [0, 1, 2, 3, 5] [16, 18, 23, 27, 30, 32, 36, 46, 49, 50, 43, 41, 66, 69, 71, 75, 78, 83, 99, 100, 101, 107, 108, 48, 58, 81, 82, 110, 111, 112] 96 = some Q37 := by kernel_rfl

/- slices.IndexFunc[[]int,int] -/
def Q89_0 : Sts := .op (some 4) (.mv (.c (.int .i64 0))) <|
  .nil
def Q89_1 : Sts := .op (some 6) (.mv (.t 0)) <|
  .op (some 7) (.len (.t 6)) <|
  .op (some 8) (.mv (.c (.int .i64 0))) <|
  .nil
def Q89_2 : Sts := .op (some 9) (.bin .lss (.t 8) (.t 7)) <|
  .nil
def Q89_3 : Sts := .op (some 10) (.mv (.t 8)) <|
  .op (some 5) (.mv (.t 10)) <|
  .nil
def Q89_4 : Sts := .op (some 11) (.mv (.t 1)) <|
  .op (some 12) (.mv (.t 0)) <|
  .op (some 13) (.mv (.t 5)) <|
  .op (some 14) (.iaddrS 1 (.t 12) (.t 13)) <|
  .op (some 15) (.loadI .i64 (.t 14)) <|
  .op (some 16) (.callv (.t 11) [(.t 15)]) <|
  .nil
def Q89_5 : Sts := .op (some 17) (.mv (.t 5)) <|
  .op (some 4) (.mv (.t 17)) <|
  .nil
def Q89_6 : Sts := .op (some 18) (.bin .add (.t 8) (.c (.int .i64 1))) <|
  .op (some 8) (.mv (.t 18)) <|
  .nil
def Q89_L7 : RCode := (.seq (.reg Q89_2) (.seq (.cond (.t 9) .skip (.exit 0)) (.seq (.block 1 (.seq (.reg Q89_3) (.seq (.reg Q89_4) (.cond (.t 16) (.seq (.reg Q89_5) .ret) .skip)))) (.reg Q89_6))))
def Q89_7 : Sts := .op (some 4) (.mv (.c (.int .i64 (-1)))) <|
  .nil
def Q89 : RFun := ⟨19, [0, 1, 4, 5, 7, 8], (.seq (.reg Q89_0) (.seq (.seq (.reg Q89_1) (.block 0 (.loop Q89_L7))) (.seq (.reg Q89_7) .ret))), [.tmp 4]⟩
theorem Q89_ok : compF Try.prog [0, 1, 4, 5, 7, 8] [16, 18, 23, 27, 30, 32, 36, 46, 49, 50, 43, 41, 66, 69, 71, 75, 78, 83, 99, 100, 101, 107, 108, 48, 58, 81, 82, 110, 111, 112] 97 = some Q89 := by kernel_rfl

/- (lockless/axiom.program).relation -/
def Q32_0 : Sts := .op (some 2) (.mv (.c (.slice none 0 0))) <|
  .nil
def Q32_1 : Sts := .op (some 3) (.mv (.t 0)) <|
  .op (some 4) (.len (.t 3)) <|
  .op (some 5) (.makeSl 128 1 4 [(.int .u32 0)] (.t 4) (.t 4)) <|
  .op (some 2) (.mv (.t 5)) <|
  .nil
def Q32 : RFun := ⟨6, [0, 2], (.seq (.reg Q32_0) (.seq (.reg Q32_1) .ret)), [.tmp 2]⟩
theorem Q32_ok : compF Try.prog [0, 2] [16, 18, 23, 27, 30, 32, 36, 46, 49, 50, 43, 41, 66, 69, 71, 75, 78, 83, 99, 100, 101, 107, 108, 48, 58, 81, 82, 110, 111, 112] 98 = some Q32 := by kernel_rfl

/- (lockless/axiom.program).starts -/
def Q33_0 : Sts := .op (some 4) (.mv (.c (.int .u32 0))) <|
  .nil
def Q33_1 : Sts := .op (some 5) (.mv (.c (.int .u32 0))) <|
  .nil
def Q33_2 : Sts := .op (some 7) (.mv (.t 0)) <|
  .op (some 8) (.mv (.t 1)) <|
  .op (some 9) (.iaddrS 6 (.t 7) (.t 8)) <|
  .op (some 10) (.loadA 6 (.t 9)) <|
  .op (some 11) (.call 107 [(.t 10)]) <|
  .nil
def Q33_3 : Sts := .op (some 12) (.mv (.t 5)) <|
  .op (some 13) (.mv (.t 1)) <|
  .op (some 14) (.bin .shl (.c (.int .u32 1)) (.t 13)) <|
  .op (some 15) (.bin .or (.t 12) (.t 14)) <|
  .op (some 5) (.mv (.t 15)) <|
  .nil
def Q33_4 : Sts := .op (some 16) (.mv (.t 1)) <|
  .op (some 17) (.bin .sub (.t 16) (.c (.int .i64 1))) <|
  .op (some 6) (.mv (.t 17)) <|
  .nil
def Q33_5 : AT := .q (.op 0 (some 18) (.mv (.t 6)) <|
  .op 1 (some 19) (.bin .geq (.t 18) (.c (.int .i64 0))) <|
  .op 2 (some 20) (.mv (.t 19)) <|
  .g 20 true (
  .op 3 (some 21) (.mv (.t 0)) <|
  .op 4 (some 22) (.mv (.t 6)) <|
  .op 5 (some 23) (.iaddrS 6 (.t 21) (.t 22)) <|
  .op 6 (some 24) (.faddr 5 (.t 23)) <|
  .op 7 (some 25) (.loadI .i64 (.t 24)) <|
  .op 8 (some 26) (.mv (.t 0)) <|
  .op 9 (some 27) (.mv (.t 1)) <|
  .op 10 (some 28) (.iaddrS 6 (.t 26) (.t 27)) <|
  .op 11 (some 29) (.faddr 5 (.t 28)) <|
  .op 12 (some 30) (.loadI .i64 (.t 29)) <|
  .op 13 (some 31) (.bin .eql (.t 25) (.t 30)) <|
  .nil) 14 32 (.t 31) <|
  .nil) <|
  .fin
def Q33_6 : Sts := .op (some 35) (.mv (.t 0)) <|
  .op (some 36) (.mv (.t 6)) <|
  .op (some 37) (.iaddrS 6 (.t 35) (.t 36)) <|
  .op (some 38) (.faddr 0 (.t 37)) <|
  .op (some 39) (.faddr 0 (.t 38)) <|
  .op (some 40) (.loadI .i64 (.t 39)) <|
  .op (some 41) (.bin .eql (.t 40) (.c (.int .i64 5))) <|
  .op (some 42) (.mv (.t 41)) <|
  .cnd 42 true (
  .op (some 43) (.mv (.t 0)) <|
  .op (some 44) (.mv (.t 6)) <|
  .op (some 45) (.iaddrS 6 (.t 43) (.t 44)) <|
  .op (some 46) (.loadA 6 (.t 45)) <|
  .op (some 47) (.call 107 [(.t 46)]) <|
  .nil) 48 (.t 47) <|
  .nil
def Q33_7 : Sts := .op (some 49) (.mv (.t 5)) <|
  .op (some 50) (.mv (.t 6)) <|
  .op (some 51) (.bin .shl (.c (.int .u32 1)) (.t 50)) <|
  .op (some 52) (.bin .or (.t 49) (.t 51)) <|
  .op (some 5) (.mv (.t 52)) <|
  .nil
def Q33_8 : Sts := .op (some 33) (.mv (.t 6)) <|
  .op (some 34) (.bin .sub (.t 33) (.c (.int .i64 1))) <|
  .op (some 6) (.mv (.t 34)) <|
  .nil
def Q33_L9 : RCode := (.seq (.seq (.any Q33_5) (.cond (.t 32) .skip (.exit 0))) (.seq (.block 1 (.seq (.reg Q33_6) (.cond (.t 48) (.reg Q33_7) .skip))) (.reg Q33_8)))
def Q33_9 : Sts := .op (some 53) (.mv (.t 5)) <|
  .op (some 4) (.mv (.t 53)) <|
  .nil
def Q33 : RFun := ⟨54, [0, 1, 4, 5, 6], (.seq (.reg Q33_0) (.seq (.reg Q33_1) (.seq (.seq (.reg Q33_2) (.cond (.t 11) (.reg Q33_3) .skip)) (.seq (.seq (.reg Q33_4) (.block 0 (.loop Q33_L9))) (.seq (.reg Q33_9) .ret))))), [.tmp 4]⟩
theorem Q33_ok : compF Try.prog [0, 1, 4, 5, 6] [16, 18, 23, 27, 30, 32, 36, 46, 49, 50, 43, 41, 66, 69, 71, 75, 78, 83, 99, 100, 101, 107, 108, 48, 58, 81, 82, 110, 111, 112] 99 = some Q33 := by kernel_rfl

/- (lockless/axiom.program).exchanged -/
def Q16_0 : Sts := .op (some 4) (.box 57 (.t 1)) <|
  .op (some 6) (.mv (.c (.bool false))) <|
  .nil
def Q16_1 : Sts := .op (some 7) (.mv (.t 0)) <|
  .op (some 8) (.mv (.t 2)) <|
  .op (some 9) (.iaddrS 6 (.t 7) (.t 8)) <|
  .op (some 10) (.loadA 6 (.t 9)) <|
  .op (some 11) (.call 46 [(.t 10)]) <|
  .op (some 12) (.mv (.t 11)) <|
  .cnd 12 true (
  .op (some 13) (.faddr 1 (.t 4)) <|
  .op (some 14) (.loadS (.t 13)) <|
  .op (some 15) (.mv (.t 2)) <|
  .op (some 16) (.iaddrS 1 (.t 14) (.t 15)) <|
  .op (some 17) (.loadB (.t 16)) <|
  .nil) 18 (.t 17) <|
  .op (some 6) (.mv (.t 18)) <|
  .nil
def Q16 : RFun := ⟨19, [0, 1, 2, 4, 6], (.seq (.reg Q16_0) (.seq (.reg Q16_1) .ret)), [.tmp 6]⟩
theorem Q16_ok : compF Try.prog [0, 1, 2, 4, 6] [16, 18, 23, 27, 30, 32, 36, 46, 49, 50, 43, 41, 66, 69, 71, 75, 78, 83, 99, 100, 101, 107, 108, 48, 58, 81, 82, 110, 111, 112] 100 = some Q16 := by kernel_rfl

/- (lockless/axiom.program).ends -/
def Q15_0 : Sts := .op (some 4) (.mv (.c (.int .u32 0))) <|
  .nil
def Q15_1 : Sts := .op (some 5) (.mv (.c (.int .u32 0))) <|
  .nil
def Q15_2 : Sts := .op (some 7) (.mv (.t 0)) <|
  .op (some 8) (.mv (.t 1)) <|
  .op (some 9) (.iaddrS 6 (.t 7) (.t 8)) <|
  .op (some 10) (.loadA 6 (.t 9)) <|
  .op (some 11) (.call 108 [(.t 10)]) <|
  .nil
def Q15_3 : Sts := .op (some 12) (.mv (.t 5)) <|
  .op (some 13) (.mv (.t 1)) <|
  .op (some 14) (.bin .shl (.c (.int .u32 1)) (.t 13)) <|
  .op (some 15) (.bin .or (.t 12) (.t 14)) <|
  .op (some 5) (.mv (.t 15)) <|
  .nil
def Q15_4 : Sts := .op (some 16) (.mv (.t 1)) <|
  .op (some 17) (.bin .add (.t 16) (.c (.int .i64 1))) <|
  .op (some 6) (.mv (.t 17)) <|
  .nil
def Q15_5 : AT := .q (.op 0 (some 18) (.mv (.t 6)) <|
  .op 1 (some 19) (.mv (.t 0)) <|
  .op 2 (some 20) (.len (.t 19)) <|
  .op 3 (some 21) (.bin .lss (.t 18) (.t 20)) <|
  .op 4 (some 22) (.mv (.t 21)) <|
  .g 22 true (
  .op 5 (some 23) (.mv (.t 0)) <|
  .op 6 (some 24) (.mv (.t 6)) <|
  .op 7 (some 25) (.iaddrS 6 (.t 23) (.t 24)) <|
  .op 8 (some 26) (.faddr 5 (.t 25)) <|
  .op 9 (some 27) (.loadI .i64 (.t 26)) <|
  .op 10 (some 28) (.mv (.t 0)) <|
  .op 11 (some 29) (.mv (.t 1)) <|
  .op 12 (some 30) (.iaddrS 6 (.t 28) (.t 29)) <|
  .op 13 (some 31) (.faddr 5 (.t 30)) <|
  .op 14 (some 32) (.loadI .i64 (.t 31)) <|
  .op 15 (some 33) (.bin .eql (.t 27) (.t 32)) <|
  .nil) 16 34 (.t 33) <|
  .nil) <|
  .fin
def Q15_6 : Sts := .op (some 37) (.mv (.t 0)) <|
  .op (some 38) (.mv (.t 6)) <|
  .op (some 39) (.iaddrS 6 (.t 37) (.t 38)) <|
  .op (some 40) (.faddr 0 (.t 39)) <|
  .op (some 41) (.faddr 0 (.t 40)) <|
  .op (some 42) (.loadI .i64 (.t 41)) <|
  .op (some 43) (.bin .eql (.t 42) (.c (.int .i64 5))) <|
  .op (some 44) (.mv (.t 43)) <|
  .cnd 44 true (
  .op (some 45) (.mv (.t 0)) <|
  .op (some 46) (.mv (.t 6)) <|
  .op (some 47) (.iaddrS 6 (.t 45) (.t 46)) <|
  .op (some 48) (.loadA 6 (.t 47)) <|
  .op (some 49) (.call 108 [(.t 48)]) <|
  .nil) 50 (.t 49) <|
  .nil
def Q15_7 : Sts := .op (some 51) (.mv (.t 5)) <|
  .op (some 52) (.mv (.t 6)) <|
  .op (some 53) (.bin .shl (.c (.int .u32 1)) (.t 52)) <|
  .op (some 54) (.bin .or (.t 51) (.t 53)) <|
  .op (some 5) (.mv (.t 54)) <|
  .nil
def Q15_8 : Sts := .op (some 35) (.mv (.t 6)) <|
  .op (some 36) (.bin .add (.t 35) (.c (.int .i64 1))) <|
  .op (some 6) (.mv (.t 36)) <|
  .nil
def Q15_L9 : RCode := (.seq (.seq (.any Q15_5) (.cond (.t 34) .skip (.exit 0))) (.seq (.block 1 (.seq (.reg Q15_6) (.cond (.t 50) (.reg Q15_7) .skip))) (.reg Q15_8)))
def Q15_9 : Sts := .op (some 55) (.mv (.t 5)) <|
  .op (some 4) (.mv (.t 55)) <|
  .nil
def Q15 : RFun := ⟨56, [0, 1, 4, 5, 6], (.seq (.reg Q15_0) (.seq (.reg Q15_1) (.seq (.seq (.reg Q15_2) (.cond (.t 11) (.reg Q15_3) .skip)) (.seq (.seq (.reg Q15_4) (.block 0 (.loop Q15_L9))) (.seq (.reg Q15_9) .ret))))), [.tmp 4]⟩
theorem Q15_ok : compF Try.prog [0, 1, 4, 5, 6] [16, 18, 23, 27, 30, 32, 36, 46, 49, 50, 43, 41, 66, 69, 71, 75, 78, 83, 99, 100, 101, 107, 108, 48, 58, 81, 82, 110, 111, 112] 101 = some Q15 := by kernel_rfl

/- slices.nextPowerOfTwo -/
def Q93_0 : Sts := .op (some 2) (.mv (.c (.int .u64 0))) <|
  .nil
def Q93_1 : Sts := .op (some 3) (.mv (.t 0)) <|
  .op (some 4) (.conv .u64 (.t 3)) <|
  .op (some 5) (.call 54 [(.t 4)]) <|
  .op (some 6) (.bin .shl (.c (.int .u64 1)) (.t 5)) <|
  .op (some 2) (.mv (.t 6)) <|
  .nil
def Q93 : RFun := ⟨7, [0, 2], (.seq (.reg Q93_0) (.seq (.reg Q93_1) .ret)), [.tmp 2]⟩
theorem Q93_ok : compF Try.prog [0, 2] [16, 18, 23, 27, 30, 32, 36, 46, 49, 50, 43, 41, 66, 69, 71, 75, 78, 83, 99, 100, 101, 107, 108, 48, 58, 81, 82, 110, 111, 112] 103 = some Q93 := by kernel_rfl

/- (*slices.xorshift).Next -/
def Q94_0 : Sts := .op (some 2) (.mv (.c (.int .u64 0))) <|
  .nil
def Q94_1 : AT := .q (.op 0 (some 3) (.mv (.t 0)) <|
  .op 1 (some 4) (.nilck (.t 3)) <|
  .op 2 (some 5) (.loadI .u64 (.t 4)) <|
  .op 3 (some 6) (.mv (.t 0)) <|
  .op 4 (some 7) (.nilck (.t 6)) <|
  .op 5 (some 8) (.loadI .u64 (.t 7)) <|
  .op 6 (some 9) (.bin .shl (.t 8) (.c (.int .u64 13))) <|
  .op 7 (some 10) (.bin .xor (.t 5) (.t 9)) <|
  .op 8 (some 11) (.nilck (.t 3)) <|
  .nil) <|
  .s 9 none (.store 1 (.t 11) (.t 10)) true (
  .q (.nil) <|
  .fin) <|
  .no
def Q94_2 : AT := .q (.op 0 (some 12) (.mv (.t 0)) <|
  .op 1 (some 13) (.nilck (.t 12)) <|
  .op 2 (some 14) (.loadI .u64 (.t 13)) <|
  .op 3 (some 15) (.mv (.t 0)) <|
  .op 4 (some 16) (.nilck (.t 15)) <|
  .op 5 (some 17) (.loadI .u64 (.t 16)) <|
  .op 6 (some 18) (.bin .shr (.t 17) (.c (.int .u64 7))) <|
  .op 7 (some 19) (.bin .xor (.t 14) (.t 18)) <|
  .op 8 (some 20) (.nilck (.t 12)) <|
  .nil) <|
  .s 9 none (.store 1 (.t 20) (.t 19)) true (
  .q (.nil) <|
  .fin) <|
  .no
def Q94_3 : AT := .q (.op 0 (some 21) (.mv (.t 0)) <|
  .op 1 (some 22) (.nilck (.t 21)) <|
  .op 2 (some 23) (.loadI .u64 (.t 22)) <|
  .op 3 (some 24) (.mv (.t 0)) <|
  .op 4 (some 25) (.nilck (.t 24)) <|
  .op 5 (some 26) (.loadI .u64 (.t 25)) <|
  .op 6 (some 27) (.bin .shl (.t 26) (.c (.int .u64 17))) <|
  .op 7 (some 28) (.bin .xor (.t 23) (.t 27)) <|
  .op 8 (some 29) (.nilck (.t 21)) <|
  .nil) <|
  .s 9 none (.store 1 (.t 29) (.t 28)) true (
  .q (.nil) <|
  .fin) <|
  .no
def Q94_4 : Sts := .op (some 30) (.mv (.t 0)) <|
  .op (some 31) (.nilck (.t 30)) <|
  .op (some 32) (.loadI .u64 (.t 31)) <|
  .op (some 2) (.mv (.t 32)) <|
  .nil
def Q94 : RFun := ⟨33, [0, 2], (.seq (.reg Q94_0) (.seq (.any Q94_1) (.seq (.any Q94_2) (.seq (.any Q94_3) (.seq (.reg Q94_4) .ret))))), [.tmp 2]⟩
theorem Q94_ok : compF Try.prog [0, 2] [16, 18, 23, 27, 30, 32, 36, 46, 49, 50, 43, 41, 66, 69, 71, 75, 78, 83, 99, 100, 101, 107, 108, 48, 58, 81, 82, 110, 111, 112] 104 = some Q94 := by kernel_rfl

/- (lockless/axiom.event).releases -/
def Q6_0 : Sts := .op (some 1) (.box 76 (.t 0)) <|
  .op (some 2) (.mv (.c (.bool false))) <|
  .nil
def Q6_1 : Sts := .op (some 6) (.faddr 0 (.t 1)) <|
  .op (some 7) (.faddr 4 (.t 6)) <|
  .op (some 8) (.loadI .i64 (.t 7)) <|
  .op (some 9) (.call 110 [(.t 8)]) <|
  .op (some 5) (.mv (.t 9)) <|
  .op (some 10) (.extract 0 (.t 5)) <|
  .op (some 11) (.extract 1 (.t 5)) <|
  .op (some 3) (.mv (.t 10)) <|
  .op (some 4) (.mv (.t 11)) <|
  .nil
def Q6_2 : Sts := .op (some 12) (.mv (.t 3)) <|
  .op (some 2) (.mv (.t 12)) <|
  .nil
def Q6 : RFun := ⟨13, [0, 1, 2, 3], (.seq (.reg Q6_0) (.seq (.reg Q6_1) (.seq (.reg Q6_2) .ret))), [.tmp 2]⟩
theorem Q6_ok : compF Try.prog [0, 1, 2, 3] [16, 18, 23, 27, 30, 32, 36, 46, 49, 50, 43, 41, 66, 69, 71, 75, 78, 83, 99, 100, 101, 107, 108, 48, 58, 81, 82, 110, 111, 112] 107 = some Q6 := by kernel_rfl

/- (lockless/axiom.event).acquires -/
def Q4_0 : Sts := .op (some 1) (.box 76 (.t 0)) <|
  .op (some 2) (.mv (.c (.bool false))) <|
  .nil
def Q4_1 : Sts := .op (some 6) (.faddr 0 (.t 1)) <|
  .op (some 7) (.faddr 4 (.t 6)) <|
  .op (some 8) (.loadI .i64 (.t 7)) <|
  .op (some 9) (.call 111 [(.t 8)]) <|
  .op (some 5) (.mv (.t 9)) <|
  .op (some 10) (.extract 0 (.t 5)) <|
  .op (some 11) (.extract 1 (.t 5)) <|
  .op (some 3) (.mv (.t 10)) <|
  .op (some 4) (.mv (.t 11)) <|
  .nil
def Q4_2 : Sts := .op (some 12) (.mv (.t 3)) <|
  .op (some 2) (.mv (.t 12)) <|
  .nil
def Q4 : RFun := ⟨13, [0, 1, 2, 3], (.seq (.reg Q4_0) (.seq (.reg Q4_1) (.seq (.reg Q4_2) .ret))), [.tmp 2]⟩
theorem Q4_ok : compF Try.prog [0, 1, 2, 3] [16, 18, 23, 27, 30, 32, 36, 46, 49, 50, 43, 41, 66, 69, 71, 75, 78, 83, 99, 100, 101, 107, 108, 48, 58, 81, 82, 110, 111, 112] 108 = some Q4 := by kernel_rfl

/- lockless/order.Releases -/
def Q76_0 : Sts := .op (some 2) (.mv (.c (.bool false))) <|
  .op (some 3) (.mv (.c (.int .i64 0))) <|
  .nil
def Q76_1 : Sts := .op (some 4) (.mv (.t 0)) <|
  .op (some 5) (.call 81 [(.t 4)]) <|
  .op (some 6) (.notb (.t 5)) <|
  .nil
def Q76_2 : Sts := .op (some 2) (.mv (.c (.bool false))) <|
  .op (some 3) (.mv (.c (.int .i64 1))) <|
  .nil
def Q76_3 : Sts := .op (some 7) (.mv (.t 0)) <|
  .op (some 8) (.call 112 [(.t 7)]) <|
  .op (some 9) (.bin .and (.t 8) (.c (.int .i64 2))) <|
  .op (some 10) (.bin .neq (.t 9) (.c (.int .i64 0))) <|
  .op (some 2) (.mv (.t 10)) <|
  .op (some 3) (.mv (.c (.int .i64 0))) <|
  .nil
def Q76 : RFun := ⟨11, [0, 2, 3], (.seq (.reg Q76_0) (.seq (.seq (.reg Q76_1) (.cond (.t 6) (.seq (.reg Q76_2) .ret) .skip)) (.seq (.reg Q76_3) .ret))), [.tmp 2, .tmp 3]⟩
theorem Q76_ok : compF Try.prog [0, 2, 3] [16, 18, 23, 27, 30, 32, 36, 46, 49, 50, 43, 41, 66, 69, 71, 75, 78, 83, 99, 100, 101, 107, 108, 48, 58, 81, 82, 110, 111, 112] 110 = some Q76 := by kernel_rfl

/- lockless/order.Acquires -/
def Q73_0 : Sts := .op (some 2) (.mv (.c (.bool false))) <|
  .op (some 3) (.mv (.c (.int .i64 0))) <|
  .nil
def Q73_1 : Sts := .op (some 4) (.mv (.t 0)) <|
  .op (some 5) (.call 81 [(.t 4)]) <|
  .op (some 6) (.notb (.t 5)) <|
  .nil
def Q73_2 : Sts := .op (some 2) (.mv (.c (.bool false))) <|
  .op (some 3) (.mv (.c (.int .i64 1))) <|
  .nil
def Q73_3 : Sts := .op (some 7) (.mv (.t 0)) <|
  .op (some 8) (.call 112 [(.t 7)]) <|
  .op (some 9) (.bin .and (.t 8) (.c (.int .i64 1))) <|
  .op (some 10) (.bin .neq (.t 9) (.c (.int .i64 0))) <|
  .op (some 2) (.mv (.t 10)) <|
  .op (some 3) (.mv (.c (.int .i64 0))) <|
  .nil
def Q73 : RFun := ⟨11, [0, 2, 3], (.seq (.reg Q73_0) (.seq (.seq (.reg Q73_1) (.cond (.t 6) (.seq (.reg Q73_2) .ret) .skip)) (.seq (.reg Q73_3) .ret))), [.tmp 2, .tmp 3]⟩
theorem Q73_ok : compF Try.prog [0, 2, 3] [16, 18, 23, 27, 30, 32, 36, 46, 49, 50, 43, 41, 66, 69, 71, 75, 78, 83, 99, 100, 101, 107, 108, 48, 58, 81, 82, 110, 111, 112] 111 = some Q73 := by kernel_rfl

/- lockless/order.bits -/
def Q77_0 : Sts := .op (some 2) (.mv (.c (.int .i64 0))) <|
  .nil
def Q77_1 : Sts := .op (some 3) (.mv (.t 0)) <|
  .op (some 4) (.bin .eql (.t 3) (.c (.int .i64 4))) <|
  .nil
def Q77_2 : Sts := .op (some 2) (.mv (.c (.int .i64 7))) <|
  .nil
def Q77_3 : Sts := .op (some 5) (.mv (.t 0)) <|
  .op (some 2) (.mv (.t 5)) <|
  .nil
def Q77 : RFun := ⟨6, [0, 2], (.seq (.reg Q77_0) (.seq (.seq (.reg Q77_1) (.cond (.t 4) (.seq (.reg Q77_2) .ret) .skip)) (.seq (.reg Q77_3) .ret))), [.tmp 2]⟩
theorem Q77_ok : compF Try.prog [0, 2] [16, 18, 23, 27, 30, 32, 36, 46, 49, 50, 43, 41, 66, 69, 71, 75, 78, 83, 99, 100, 101, 107, 108, 48, 58, 81, 82, 110, 111, 112] 112 = some Q77 := by kernel_rfl

end Go.EV

namespace Go.EV
open Go.Proofs

abbrev vi (n : Int) : Value := .int .i64 n
abbrev vb (b : Bool) : Value := .bool b

def bitsP (o : Int) : Int := if o = 4 then 7 else o
def isOrderP (o : Int) : Bool := decide (0 ≤ o) && decide (o < 5)
def mayP (k o : Int) : Bool :=
  if k = 0 then !decide (o = 2) && !decide (o = 3) else if k = 1 then !decide (o = 1) && !decide (o = 3) else if k = 5 then !decide (o = 0) else true

section
variable {M : PHeap}

theorem order_bits_q (o : Int) : ConQ Try.prog 112 #[vi o] M (vi (bitsP o)) := by
  refine Con.enter Q77_ok (args := [vi o]) (by simp [Q77]) fun w0 => ?_
  simp only [Q77, argE]
  repeat' first
      | refine EV.seq ?_
      | refine EV.skip ?_
      | (refine EV.reg ?_; (conv => (arg 2; whnf)); (refine nx ?_; try with_reducible exact ⟨⟩))
      | (refine EV.condX rfl (fun h => ?_) (fun h => ?_) <;> try exact dead h)
      | (refine EV.ret Q77_ok ?_; simp only [wpS, wpA, wpQL, push_cast, Int.cast_ofNat_Int, reduceIte, Nat.reduceEqDiff, reduceCtorEq, Nat.reduceAdd, Nat.reduceSub, Nat.reduceMul, Int.reduceToNat, Nat.reduceLeDiff, Q77])
      | fail
  all_goals simp_all [bitsP]

theorem order_isOrder_q (o : Int) : ConQ Try.prog 81 #[vi o] M (vb (isOrderP o)) := by
  refine Con.enter Q78_ok (args := [vi o]) (by simp [Q78]) fun w0 => ?_
  simp only [Q78, argE]
  repeat' first
      | refine EV.seq ?_
      | (refine EV.reg ?_; (conv => (arg 2; whnf)); (refine nx ?_; try with_reducible exact ⟨⟩))
      | with_reducible assumption
      | (refine condW.merge ?_ (fun hc K' hK => ?_) ?_; rotate_left)
      | (refine EV.ret Q78_ok ?_; simp only [wpS, wpA, wpQL, push_cast, Int.cast_ofNat_Int, reduceIte, Nat.reduceEqDiff, reduceCtorEq, Nat.reduceAdd, Nat.reduceSub, Nat.reduceMul, Int.reduceToNat, Nat.reduceLeDiff, Q78])
      | fail
  all_goals simp_all [isOrderP]

theorem order_may_q (k o : Int) : ConQ Try.prog 82 #[vi k, vi o] M (vb (mayP k o)) := by
  refine Con.enter Q79_ok (args := [vi k, vi o]) (by simp [Q79]) fun w0 => ?_
  simp only [Q79, argE]
  repeat' first
      | refine EV.seq ?_
      | refine EV.skip ?_
      | refine EV.block ?_
      | refine EV.inBlock ?_
      | (refine EV.reg ?_; (conv => (arg 2; whnf)); (refine nx ?_; try with_reducible exact ⟨⟩))
      | with_reducible assumption
      | (refine condW.merge ?_ (fun hc K' hK => ?_) ?_; rotate_left)
      | (refine EV.condX rfl (fun h => ?_) (fun h => ?_) <;> try exact dead h)
      | (refine EV.ret Q79_ok ?_; simp only [wpS, wpA, wpQL, push_cast, Int.cast_ofNat_Int, reduceIte, Nat.reduceEqDiff, reduceCtorEq, Nat.reduceAdd, Nat.reduceSub, Nat.reduceMul, Int.reduceToNat, Nat.reduceLeDiff, Q79])
      | fail
  all_goals simp_all [mayP]


def mayR (k o : Int) : Bool := decide (0 ≤ k) && decide (k < 6) && isOrderP o
theorem order_May_q (k o : Int) : ConQ Try.prog 48 #[vi k, vi o] M (.tuple #[vb (mayR k o && mayP k o), vi (if mayR k o then 0 else 1)]) := by
  refine Con.enter Q74_ok (args := [vi k, vi o]) (by simp [Q74]) fun w0 => ?_
  simp only [Q74, argE]
  repeat' first
      | refine EV.seq ?_
      | refine EV.skip ?_
      | (refine EV.reg ?_; (conv => (arg 2; whnf)); (refine nx ?_; try with_reducible exact ⟨⟩))
      | ((first | refine ConQ.call (order_may_q _ _) ?_ | refine ConQ.call (order_isOrder_q _) ?_ | fail); try (refine nx ?_; try with_reducible exact ⟨⟩))
      | with_reducible assumption
      | (refine condW.merge ?_ (fun hc K' hK => ?_) ?_; rotate_left)
      | (refine EV.condX rfl (fun h => ?_) (fun h => ?_) <;> try exact dead h)
      | (refine EV.ret Q74_ok ?_; simp only [wpS, wpA, wpQL, push_cast, Int.cast_ofNat_Int, reduceIte, Nat.reduceEqDiff, reduceCtorEq, Nat.reduceAdd, Nat.reduceSub, Nat.reduceMul, Int.reduceToNat, Nat.reduceLeDiff, Q74])
      | fail
  all_goals (simp [mayR]; grind)

def acqP (o : Int) : Bool := decide (o = 1) || decide (o = 3) || decide (o = 4)
def relP (o : Int) : Bool := decide (o = 2) || decide (o = 3) || decide (o = 4)

theorem isOrder_cases {o : Int} (h : isOrderP o = true) : o = 0 ∨ o = 1 ∨ o = 2 ∨ o = 3 ∨ o = 4 := by
  simp [isOrderP] at h; omega

theorem order_Acquires_q (o : Int) (ho : isOrderP o = true) : ConQ Try.prog 111 #[vi o] M (.tuple #[vb (acqP o), vi 0]) := by
  refine Con.enter Q73_ok (args := [vi o]) (by simp [Q73]) fun w0 => ?_
  simp only [Q73, argE]
  repeat' first
      | refine EV.seq ?_
      | refine EV.skip ?_
      | (refine EV.reg ?_; (conv => (arg 2; whnf)); (refine nx ?_; try with_reducible exact ⟨⟩))
      | ((first | refine ConQ.call (order_bits_q _) ?_ | refine ConQ.call (order_isOrder_q _) ?_ | fail); try (refine nx ?_; try with_reducible exact ⟨⟩))
      | (refine EV.condX rfl (fun h => ?_) (fun h => ?_) <;> try exact dead h)
      | (refine EV.ret Q73_ok ?_; simp only [wpS, wpA, wpQL, push_cast, Int.cast_ofNat_Int, reduceIte, Nat.reduceEqDiff, reduceCtorEq, Nat.reduceAdd, Nat.reduceSub, Nat.reduceMul, Int.reduceToNat, Nat.reduceLeDiff, Q73])
      | fail
  all_goals (first | (cases (ho.symm.trans h); done) | (rcases isOrder_cases ho with rfl | rfl | rfl | rfl | rfl <;> (congr 3 <;> decide)))

theorem order_Releases_q (o : Int) (ho : isOrderP o = true) : ConQ Try.prog 110 #[vi o] M (.tuple #[vb (relP o), vi 0]) := by
  refine Con.enter Q76_ok (args := [vi o]) (by simp [Q76]) fun w0 => ?_
  simp only [Q76, argE]
  repeat' first
      | refine EV.seq ?_
      | refine EV.skip ?_
      | (refine EV.reg ?_; (conv => (arg 2; whnf)); (refine nx ?_; try with_reducible exact ⟨⟩))
      | ((first | refine ConQ.call (order_bits_q _) ?_ | refine ConQ.call (order_isOrder_q _) ?_ | fail); try (refine nx ?_; try with_reducible exact ⟨⟩))
      | (refine EV.condX rfl (fun h => ?_) (fun h => ?_) <;> try exact dead h)
      | (refine EV.ret Q76_ok ?_; simp only [wpS, wpA, wpQL, push_cast, Int.cast_ofNat_Int, reduceIte, Nat.reduceEqDiff, reduceCtorEq, Nat.reduceAdd, Nat.reduceSub, Nat.reduceMul, Int.reduceToNat, Nat.reduceLeDiff, Q76])
      | fail
  all_goals (first | (cases (ho.symm.trans h); done) | (rcases isOrder_cases ho with rfl | rfl | rfl | rfl | rfl <;> (congr 3 <;> decide)))

def plainP (k o : Int) : Int := if o ≠ 4 then o else if k = 0 then 1 else if k = 1 then 2 else 3
theorem order_Plain_q (k o : Int) (hk : mayR k o = true) (hm : mayP k o = true) (h5 : k ≠ 5) : ConQ Try.prog 58 #[vi k, vi o] M (.tuple #[vi (plainP k o), vi 0]) := by
  refine Con.enter Q75_ok (args := [vi k, vi o]) (by simp [Q75]) fun w0 => ?_
  simp only [Q75, argE]
  repeat' first
      | refine EV.seq ?_
      | refine EV.skip ?_
      | refine EV.block ?_
      | refine EV.inBlock ?_
      | (refine EV.reg ?_; (conv => (arg 2; whnf)); (refine nx ?_; try with_reducible exact ⟨⟩))
      | (refine ConQ.call (order_May_q _ _) ?_; try (refine nx ?_; try with_reducible exact ⟨⟩))
      | with_reducible assumption
      | (refine condW.merge ?_ (fun hc K' hK => ?_) ?_; rotate_left)
      | (refine EV.condX rfl (fun h => ?_) (fun h => ?_) <;> try exact dead h)
      | (refine EV.ret Q75_ok ?_; simp only [wpS, wpA, wpQL, push_cast, Int.cast_ofNat_Int, reduceIte, Nat.reduceEqDiff, reduceCtorEq, Nat.reduceAdd, Nat.reduceSub, Nat.reduceMul, Int.reduceToNat, Nat.reduceLeDiff, Q75])
      | fail
  all_goals simp_all [plainP]

/-- An operation of a litmus program. -/
structure OpV where
  kind : Int
  loc : Int
  v : Int
  w : Int
  ord : Int
  deriving DecidableEq

abbrev encOp (o : OpV) : List Value := [vi o.kind, vi o.loc, vi o.v, vi o.w, vi o.ord]
abbrev vop (o : OpV) : Value := .agg #[vi o.kind, vi o.loc, vi o.v, vi o.w, vi o.ord]

def digitP (n : Int) : Bool := decide (0 ≤ n) && decide (n ≤ 9)
theorem litmus_digit_q (n : Int) : ConQ Try.prog 83 #[vi n] M (vb (digitP n)) := by
  refine Con.enter Q50_ok (args := [vi n]) (by simp [Q50]) fun w0 => ?_
  simp only [Q50, argE]
  repeat' first
      | refine EV.seq ?_
      | (refine EV.reg ?_; (conv => (arg 2; whnf)); (refine nx ?_; try with_reducible exact ⟨⟩))
      | with_reducible assumption
      | (refine condW.merge ?_ (fun hc K' hK => ?_) ?_; rotate_left)
      | (refine EV.ret Q50_ok ?_; simp only [wpS, wpA, wpQL, push_cast, Int.cast_ofNat_Int, reduceIte, Nat.reduceEqDiff, reduceCtorEq, Nat.reduceAdd, Nat.reduceSub, Nat.reduceMul, Int.reduceToNat, Nat.reduceLeDiff, Q50])
      | fail
  all_goals simp_all [digitP]

def accessP (o : OpV) : Bool := decide (0 ≤ o.kind) && decide (o.kind ≤ 4)
theorem litmus_access_q (o : OpV) : ConQ Try.prog 27 #[vop o] M (vb (accessP o)) := by
  refine Con.enter Q49_ok (args := [vop o]) (by simp [Q49]) fun w0 => ?_
  simp only [Q49, argE]
  repeat' first
      | refine EV.seq ?_
      | (refine EV.reg ?_; (conv => (arg 2; whnf)); (refine nx ?_; try with_reducible exact ⟨⟩))
      | with_reducible assumption
      | (refine condW.merge ?_ (fun hc K' hK => ?_) ?_; rotate_left)
      | (refine EV.ret Q49_ok ?_; simp only [wpS, wpA, wpQL, push_cast, Int.cast_ofNat_Int, reduceIte, Nat.reduceEqDiff, reduceCtorEq, Nat.reduceAdd, Nat.reduceSub, Nat.reduceMul, Int.reduceToNat, Nat.reduceLeDiff, Q49])
      | ((first | with_reducible intro b | refine xiA rfl ?_ | fail); try (refine nx ?_; try with_reducible exact ⟨⟩))
      | fail
  all_goals simp_all [accessP]

def fitsP (o : OpV) : Bool :=
  decide (0 ≤ o.loc) && decide (o.loc < 3) &&
  (if o.kind = 0 then decide (o.v = 0) && decide (o.w = 0) else if o.kind = 1 then digitP o.v && decide (o.w = 0) else if o.kind = 2 then decide (-9 ≤ o.v) && decide (o.v ≤ 9) && decide (o.w = 0)
    else if o.kind = 3 ∨ o.kind = 4 then digitP o.v && digitP o.w else if o.kind = 5 then decide (o.loc = 0) && decide (o.v = 0) && decide (o.w = 0) else false)
theorem litmus_fits_q (o : OpV) : ConQ Try.prog 49 #[vop o] M (vb (fitsP o)) := by
  refine Con.enter Q51_ok (args := [vop o]) (by simp [Q51]) fun w0 => ?_
  simp only [Q51, argE]
  repeat' first
      | refine EV.seq ?_
      | refine EV.skip ?_
      | refine EV.block ?_
      | refine EV.inBlock ?_
      | (refine EV.reg ?_; (conv => (arg 2; whnf)); (refine nx ?_; try with_reducible exact ⟨⟩))
      | (refine ConQ.call (litmus_digit_q _) ?_; try (refine nx ?_; try with_reducible exact ⟨⟩))
      | with_reducible assumption
      | (refine condW.merge ?_ (fun hc K' hK => ?_) ?_; rotate_left)
      | (refine EV.condX rfl (fun h => ?_) (fun h => ?_) <;> try exact dead h)
      | (refine EV.ret Q51_ok ?_; simp only [wpS, wpA, wpQL, push_cast, Int.cast_ofNat_Int, reduceIte, Nat.reduceEqDiff, reduceCtorEq, Nat.reduceAdd, Nat.reduceSub, Nat.reduceMul, Int.reduceToNat, Nat.reduceLeDiff, Q51])
      | ((first | with_reducible intro b | refine xiA rfl ?_ | fail); try (refine nx ?_; try with_reducible exact ⟨⟩))
      | fail
  all_goals (simp [fitsP]; grind)

end
end Go.EV

namespace Go.EV
open Go.Proofs

theorem Sl.ints {H : PHeap} {b off : Nat} {xs : List Int} (h : rd H b off xs.length (xs.map vi)) : ∀ i (hi : i < xs.length), rd H b (off + i) 1 [vi xs[i]] := by
  intro i hi
  have := h.part (i := i) (m := 1) (by omega)
  rwa [show ((xs.map vi).drop i).take 1 = [vi xs[i]] from by
    rw [List.drop_eq_getElem_cons (by simpa using hi)]; simp] at this

section
variable {M : PHeap}

def mx (xs : List Int) (i : Nat) : Int := (xs.take i).foldl (fun a b => if b > a then b else a) (xs.headD 0)

theorem mx_step {xs : List Int} {i : Nat} (hi : i < xs.length) : mx xs (i + 1) = if xs[i] > mx xs i then xs[i] else mx xs i := by
  simp only [mx, List.take_succ_eq_append_getElem hi, List.foldl_append, List.foldl_cons, List.foldl_nil]
  rfl

theorem slices_Max_q (H : PHeap) (b off c : Nat) (xs : List Int) (h0 : 0 < xs.length) (hl : xs.length < 1000000) (h : rd H b off xs.length (xs.map vi)) : ConQ Try.prog 80 #[.slice (some ⟨b, off, none⟩) xs.length c] H (vi (mx xs xs.length)) := by
  have hr := Sl.ints h
  have hr0 : rd H b off 1 [vi xs[0]] := hr 0 h0
  have hx0 : xs[0] = mx xs 1 := by cases xs with | nil => simp at h0 | cons x xs => simp [mx]
  refine Con.enter Q91_ok (args := [.slice (some ⟨b, off, none⟩) xs.length c]) (by simp [Q91]) fun w0 => ?_
  simp only [Q91, argE]
  repeat' first
      | refine EV.seq ?_
      | refine EV.skip ?_
      | refine EV.block ?_
      | (refine EV.reg ?_; (conv => (arg 2; whnf)); (refine nx ?_; try with_reducible exact ⟨⟩))
      | (refine EV.condX rfl (fun h => ?_) (fun h => ?_) <;> try exact dead h)
      | (refine And.intro (by omega) ?_)
      | (refine Exists.intro _ (And.intro (rd_M (by assumption)) ?_); try (refine nx ?_; try with_reducible exact ⟨⟩))
      | fail
  · refine EV.to (ρ' := [(0, .slice (some ⟨b, off, none⟩) xs.length c), (3, vi (mx xs 1)), (4, vi (1 : Nat))]) ?_ (by simp [get, hx0]) (List.Sublist.refl _)
    refine EV.loop (fun i : Nat => ([(0, .slice (some ⟨b, off, none⟩) xs.length c), (3, vi (mx xs i)), (4, vi i)], H, [])) (fun i => 1 ≤ i ∧ i ≤ xs.length) (fun i => xs.length - i) 1 ⟨by omega, by omega⟩ ?_
    intro i ⟨hi1, hi2⟩ ih
    dsimp only at ih ⊢
    repeat' first
        | refine EV.seq ?_
        | refine EV.skip ?_
        | refine EV.block ?_
        | (refine EV.reg ?_; (conv => (arg 2; whnf)); (refine nx ?_; try with_reducible exact ⟨⟩))
        | (refine EV.condX rfl (fun h => ?_) (fun h => ?_) <;> try exact dead h)
        | (refine EV.exit rfl ?_)
        | (refine EV.ret Q91_ok ?_; simp only [wpS, wpA, wpQL, push_cast, Int.cast_ofNat_Int, reduceIte, Nat.reduceEqDiff, reduceCtorEq, Nat.reduceAdd, Nat.reduceSub, Nat.reduceMul, Int.reduceToNat, Nat.reduceLeDiff, Q91])
        | (refine And.intro (by omega) ?_)
        | fail
    · have hi : i < xs.length := by omega
      refine ⟨_, rd_M (hr i hi), ?_⟩
      repeat' first
          | refine EV.inBlock ?_
          | (refine EV.reg ?_; (conv => (arg 2; whnf)); (refine nx ?_; try with_reducible exact ⟨⟩))
          | fail
      refine EV.to (ih (i + 1) ⟨by omega, by omega⟩ (by omega)) ?_ (List.Sublist.refl _)
      repeat' first
        | (refine List.forall_mem_cons.2 (And.intro ?_ ?_))
        | (intro _ hnil; cases hnil; done)
        | rfl
        | (refine env_w64 rfl (by first | rfl | (push_cast; first | rfl | omega)) (by omega) (by omega); done)
        | (simp (disch := omega) only [get_cons, get_nil, reduceIte, Nat.reduceEqDiff, Option.some.injEq, Value.int.injEq, w64, Int.natCast_add, Int.natCast_one, Int.cast_ofNat_Int, Int.natCast_zero, mx_step hi]; done)
        | fail
    · rw [show i = xs.length from by omega]


/-- What limits counts. -/
structure LimS where
  acc : Int
  fen : Int
  w0 : Int
  w1 : Int
  w2 : Int

def limStep (s : LimS) (o : OpV) : LimS :=
  if o.kind = 5 then { s with fen := s.fen + 1 }
  else if accessP o = true then
    { acc := s.acc + 1, fen := if o.ord = 4 then s.fen + 2 else s.fen,
      w0 := if o.kind ≠ 0 ∧ o.loc = 0 then s.w0 + 1 else s.w0, w1 := if o.kind ≠ 0 ∧ o.loc = 1 then s.w1 + 1 else s.w1, w2 := if o.kind ≠ 0 ∧ o.loc = 2 then s.w2 + 1 else s.w2 }
  else s

def limOf (l : List OpV) : LimS := l.foldl limStep ⟨0, 0, 0, 0, 0⟩

def limitsP (ts : List (List OpV)) : Bool :=
  decide (ts.length ≤ 3) && decide ((limOf ts.flatten).acc ≤ 6) && decide ((limOf ts.flatten).fen ≤ 8) && decide ((limOf ts.flatten).w0 ≤ 4) && decide ((limOf ts.flatten).w1 ≤ 4) && decide ((limOf ts.flatten).w2 ≤ 4)

theorem lim_bound (l : List OpV) : 0 ≤ (limOf l).acc ∧ (limOf l).acc ≤ l.length ∧ 0 ≤ (limOf l).fen ∧ (limOf l).fen ≤ 2 * l.length ∧ 0 ≤ (limOf l).w0 ∧ (limOf l).w0 ≤ l.length ∧ 0 ≤ (limOf l).w1 ∧ (limOf l).w1 ≤ l.length ∧ 0 ≤ (limOf l).w2 ∧ (limOf l).w2 ≤ l.length := by
  have key : ∀ (l : List OpV) (s : LimS), s.acc ≤ (l.foldl limStep s).acc ∧ (l.foldl limStep s).acc ≤ s.acc + l.length ∧ s.fen ≤ (l.foldl limStep s).fen ∧ (l.foldl limStep s).fen ≤ s.fen + 2 * l.length ∧ s.w0 ≤ (l.foldl limStep s).w0 ∧ (l.foldl limStep s).w0 ≤ s.w0 + l.length ∧ s.w1 ≤ (l.foldl limStep s).w1 ∧ (l.foldl limStep s).w1 ≤ s.w1 + l.length ∧ s.w2 ≤ (l.foldl limStep s).w2 ∧ (l.foldl limStep s).w2 ≤ s.w2 + l.length := by
    intro l
    induction l with
    | nil => intro s; simp
    | cons o l ih =>
      intro s
      have := ih (limStep s o)
      simp only [List.foldl_cons, List.length_cons]
      have h2 : s.acc ≤ (limStep s o).acc ∧ (limStep s o).acc ≤ s.acc + 1 ∧ s.fen ≤ (limStep s o).fen ∧ (limStep s o).fen ≤ s.fen + 2 ∧ s.w0 ≤ (limStep s o).w0 ∧ (limStep s o).w0 ≤ s.w0 + 1 ∧ s.w1 ≤ (limStep s o).w1 ∧ (limStep s o).w1 ≤ s.w1 + 1 ∧ s.w2 ≤ (limStep s o).w2 ∧ (limStep s o).w2 ≤ s.w2 + 1 := by
        unfold limStep
        split
        · simp; omega
        · split
          · simp only []
            refine ⟨?_, ?_, ?_, ?_, ?_, ?_, ?_, ?_, ?_, ?_⟩ <;> (repeat' split) <;> omega
          · simp; omega
      omega
  have := key l ⟨0, 0, 0, 0, 0⟩
  dsimp only at this
  unfold limOf
  omega

theorem flat_take {α : Type} {ts : List (List α)} {i : Nat} (hi : i < ts.length) : (ts.take (i + 1)).flatten = (ts.take i).flatten ++ ts[i] := by
  rw [List.take_succ_eq_append_getElem hi, List.flatten_append]; simp

theorem flat_take_le {α : Type} (ts : List (List α)) (i : Nat) : (ts.take i).flatten.length ≤ ts.flatten.length := by
  have : ts.flatten = (ts.take i).flatten ++ (ts.drop i).flatten := by rw [← List.flatten_append, List.take_append_drop]
  rw [this]; simp

/-- Rows that a machine can hold. -/
structure Sized {α : Type} (ts : List (List α)) : Prop where
  len : ts.length ≤ 281474976710656
  each : ∀ t ∈ ts, t.length ≤ 281474976710656
theorem flat_le {α : Type} {B : Nat} : ∀ {ts : List (List α)}, (∀ t ∈ ts, t.length ≤ B) → ts.flatten.length ≤ ts.length * B
  | [], _ => by simp
  | t :: ts, h => by
    have h1 := flat_le (ts := ts) fun x hx => h x (List.mem_cons_of_mem _ hx)
    have h2 := h t (List.mem_cons_self ..)
    rw [List.flatten_cons, List.length_append, List.length_cons, Nat.succ_mul]; omega
theorem Sized.flat {α : Type} {ts : List (List α)} (h : Sized ts) (h3 : ts.length ≤ 3) : ts.flatten.length < 1000000000000000 := by
  have h1 := flat_le h.each
  have h2 : ts.length * 281474976710656 ≤ 3 * 281474976710656 := Nat.mul_le_mul_right _ h3
  omega

set_option maxHeartbeats 4000000 in
theorem litmus_limits_q (ts : List (List OpV)) (s : Value) (hs : SlSl M 5 encOp s ts) (hb : Sized ts) : ConQ Try.prog 47 #[.agg #[s]] M (vb (limitsP ts)) := by
  obtain ⟨a, c, vs, rfl, hl, hrd, hk⟩ := hs
  refine Con.enter Q52_ok (args := [.agg #[.slice a ts.length c]]) (by simp [Q52]) fun w0 => ?_
  simp only [Q52, argE]
  repeat' first
      | refine EV.seq ?_
      | refine EV.skip ?_
      | refine EV.block ?_
      | (refine EV.reg ?_; (conv => (arg 2; whnf)); (refine nx ?_; try with_reducible exact ⟨⟩))
      | (refine EV.condX rfl (fun h => ?_) (fun h => ?_) <;> try exact dead h)
      | (refine EV.ret Q52_ok ?_; simp only [wpS, wpA, wpQL, push_cast, Int.cast_ofNat_Int, reduceIte, Nat.reduceEqDiff, reduceCtorEq, Nat.reduceAdd, Nat.reduceSub, Nat.reduceMul, Int.reduceToNat, Nat.reduceLeDiff, Q52])
      | ((first | with_reducible intro b | refine xsA rfl ?_ | fail); try (refine nx ?_; try with_reducible exact ⟨⟩))
      | fail
  · simp [limitsP]; omega
  rename_i b1
  have hlen3 : ts.length ≤ 3 := by omega
  have hb' := hb.2
  have hb := hb.flat hlen3
  refine EV.to (ρ' := [(3, vi (limOf (ts.take 0).flatten).acc), (4, vi (limOf (ts.take 0).flatten).fen), (5, pv b 0), (15, .slice a ts.length c), (16, vi ts.length), (17, vi (0 : Nat))])
    (G' := [(b, Cl 62 [vi (limOf (ts.take 0).flatten).w0, vi (limOf (ts.take 0).flatten).w1, vi (limOf (ts.take 0).flatten).w2])]) ?_ (by simp [get, limOf]) (by simp [limOf])
  refine EV.loop (fun i : Nat => ([(3, vi (limOf (ts.take i).flatten).acc), (4, vi (limOf (ts.take i).flatten).fen), (5, pv b 0), (15, .slice a ts.length c), (16, vi ts.length), (17, vi i)], M,
    [(b, Cl 62 [vi (limOf (ts.take i).flatten).w0, vi (limOf (ts.take i).flatten).w1, vi (limOf (ts.take i).flatten).w2])])) (fun i => i ≤ ts.length) (fun i => ts.length - i) 0 (Nat.zero_le _) ?_
  intro i hi ih
  dsimp only at ih ⊢
  repeat' first
      | refine EV.seq ?_
      | refine EV.skip ?_
      | refine EV.block ?_
      | (refine EV.reg ?_; (conv => (arg 2; whnf)); (refine nx ?_; try with_reducible exact ⟨⟩))
      | (refine ConQ.call (slices_Max_q _ _ 0 3 [_, _, _] (by simp) (by simp) (rd_own' 0 rfl rfl (by simp))) ?_; try (refine nx ?_; try with_reducible exact ⟨⟩))
      | with_reducible assumption
      | (refine condW.merge ?_ (fun hc K' hK => ?_) ?_; rotate_left)
      | (refine EV.condX rfl (fun h => ?_) (fun h => ?_) <;> try exact dead h)
      | (refine EV.exit rfl ?_)
      | (refine EV.ret Q52_ok ?_; simp only [wpS, wpA, wpQL, push_cast, Int.cast_ofNat_Int, reduceIte, Nat.reduceEqDiff, reduceCtorEq, Nat.reduceAdd, Nat.reduceSub, Nat.reduceMul, Int.reduceToNat, Nat.reduceLeDiff, Q52])
      | fail
  · have hi' : i < ts.length := by omega
    obtain ⟨pb, po, rfl, hat⟩ := SlSl.at hrd hl hk (by omega)
    obtain ⟨a', c', hr1, hr2⟩ := hat i hi'
    simp only [Nat.mul_one] at hr1
    repeat' first
        | refine EV.seq ?_
        | refine EV.block ?_
        | (refine EV.reg ?_; (conv => (arg 2; whnf)); (refine nx ?_; try with_reducible exact ⟨⟩))
        | (refine And.intro (by omega) ?_)
        | (refine Exists.intro _ (Exists.intro _ (Exists.intro _ (And.intro (rd_M (by assumption)) ?_))); try (refine nx ?_; try with_reducible exact ⟨⟩))
        | fail
    have hlen : ((ts.take i).flatten ++ ts[i]).length ≤ ts.flatten.length := by rw [← flat_take hi']; exact flat_take_le ts (i + 1)
    simp only [List.length_append] at hlen
    let W : Nat → LimS := fun j => limOf ((ts.take i).flatten ++ ts[i].take j)
    refine EV.to (ρ' := [(3, vi (W 0).acc), (4, vi (W 0).fen), (5, pv b 0), (15, .slice (some ⟨pb, po, none⟩) ts.length c), (16, vi ts.length), (17, vi i), (21, .slice a' ts[i].length c'), (22, vi ts[i].length), (23, vi (0 : Nat))])
      (G' := [(b, Cl 62 [vi (W 0).w0, vi (W 0).w1, vi (W 0).w2])]) ?_ (by simp [get, W]) (by simp [W])
    refine EV.loop (fun j : Nat => ([(3, vi (W j).acc), (4, vi (W j).fen), (5, pv b 0), (15, .slice (some ⟨pb, po, none⟩) ts.length c), (16, vi ts.length), (17, vi i), (21, .slice a' ts[i].length c'), (22, vi ts[i].length), (23, vi j)], M,
      [(b, Cl 62 [vi (W j).w0, vi (W j).w1, vi (W j).w2])])) (fun j => j ≤ ts[i].length) (fun j => ts[i].length - j) 0 (Nat.zero_le _) ?_
    intro j hj ih2
    dsimp only at ih2 ⊢
    repeat' first
        | refine EV.seq ?_
        | refine EV.skip ?_
        | refine EV.block ?_
        | refine EV.inBlock ?_
        | (refine EV.reg ?_; (conv => (arg 2; whnf)); (refine nx ?_; try with_reducible exact ⟨⟩))
        | (refine EV.condX rfl (fun h => ?_) (fun h => ?_) <;> try exact dead h)
        | (refine EV.exit rfl ?_)
        | fail
    · have hj' : j < ts[i].length := by omega
      obtain ⟨qb, qo, rfl, hat2⟩ := Sl.at (enc := encOp) (fun _ => rfl) (by omega) hr2 (by omega)
      have hr3 := hat2 j hj'
      have hW : W (j + 1) = limStep (W j) ts[i][j] := by
        simp only [W, limOf, List.take_succ_eq_append_getElem hj', ← List.append_assoc, List.foldl_append, List.foldl_cons, List.foldl_nil]
      have hWb := lim_bound ((ts.take i).flatten ++ ts[i].take j)
      have hWl : ((ts.take i).flatten ++ ts[i].take j).length < 1000000000000000 := by rw [List.length_append, List.length_take]; omega
      have fin : ∀ ρ G', (∀ p ∈ [(3, vi (W (j + 1)).acc), (4, vi (W (j + 1)).fen), (5, pv b 0), (15, .slice (some ⟨pb, po, none⟩) ts.length c), (16, vi ts.length), (17, vi i), (21, .slice (some ⟨qb, qo, none⟩) ts[i].length c'), (22, vi ts[i].length), (23, vi (j + 1 : Nat))], get ρ p.1 = some p.2) →
          [(b, Cl 62 [vi (W (j + 1)).w0, vi (W (j + 1)).w1, vi (W (j + 1)).w2])].Sublist G' → _ := fun ρ G' h1 h2 => EV.to (ρ := ρ) (G := G') (ih2 (j + 1) (by omega) (by omega)) h1 h2
      rw [hW] at fin
      have hWe : W j = limOf ((ts.take i).flatten ++ ts[i].take j) := rfl
      rw [← hWe] at hWb
      clear_value W
      have e1 : IntKind.i64.wrap ((W j).acc + 1) = (W j).acc + 1 := w64 (by omega) (by omega)
      have e2 : IntKind.i64.wrap ((W j).fen + 1) = (W j).fen + 1 := w64 (by omega) (by omega)
      have e3 : IntKind.i64.wrap ((W j).fen + 2) = (W j).fen + 2 := w64 (by omega) (by omega)
      have e4 : IntKind.i64.wrap ((W j).w0 + 1) = (W j).w0 + 1 := w64 (by omega) (by omega)
      have e5 : IntKind.i64.wrap ((W j).w1 + 1) = (W j).w1 + 1 := w64 (by omega) (by omega)
      have e6 : IntKind.i64.wrap ((W j).w2 + 1) = (W j).w2 + 1 := w64 (by omega) (by omega)
      have e7 : IntKind.i64.wrap ((j : Int) + 1) = ((j + 1 : Nat) : Int) := w64 (by omega) (by omega)
      clear ih ih2 hat hat2 hrd hk hr1 hr2 hWb hWl hWe hlen hW hb hb' hl
      generalize W j = s at *
      generalize ts[i][j] = o at *
      clear W
      repeat' first
          | refine EV.seq ?_
          | refine EV.skip ?_
          | refine EV.block ?_
          | refine EV.inBlock ?_
          | (refine EV.reg ?_; (conv => (arg 2; whnf)); (refine nx ?_; try with_reducible exact ⟨⟩))
          | (refine ConQ.call (litmus_access_q _) ?_; try (refine nx ?_; try with_reducible exact ⟨⟩))
          | with_reducible assumption
          | (refine condW.merge ?_ (fun hc K' hK => ?_) ?_; rotate_left)
          | (refine EV.condX rfl (fun h => ?_) (fun h => ?_) <;> try exact dead h)
          | (with_reducible intro b; try (refine nx ?_; try with_reducible exact ⟨⟩))
          | (refine And.intro (by omega) ?_)
          | ((first | refine Exists.intro _ (And.intro (rd_M (by assumption)) ?_) | refine xrA rfl ?_ | refine xiA rfl ?_ | fail); try (refine nx ?_; try with_reducible exact ⟨⟩))
          | (refine xw ?_; (refine nx ?_; try with_reducible exact ⟨⟩))
          | fail
      all_goals try refine fin _ _ ?_ ?_
      all_goals first
        | (simp [get, limStep, *]; done)
        | (simp [get, limStep, *]; grind)
        | skip
      all_goals
        have hloc : o.loc = 0 ∨ o.loc = 1 ∨ o.loc = 2 := by omega
        have hk0 : ¬ o.kind = 0 := by omega
        rcases hloc with hloc | hloc | hloc <;> rw [hloc] <;> simp only [Int.reduceToNat, Int.toNat_zero, Int.reduceLE, Int.reduceLT, true_and]
      all_goals repeat' first
          | refine EV.inBlock ?_
          | (refine EV.reg ?_; (conv => (arg 2; whnf)); (refine nx ?_; try with_reducible exact ⟨⟩))
          | (refine xiA rfl ?_; try (refine nx ?_; try with_reducible exact ⟨⟩))
          | (refine xw ?_; (refine nx ?_; try with_reducible exact ⟨⟩))
          | fail
      all_goals try refine fin _ _ ?_ ?_
      all_goals first
        | (simp [get, limStep, *]; done)
        | (simp [get, limStep, *]; grind)
        | skip
    · have hj' : j = ts[i].length := by omega
      subst hj'
      have hf : (ts.take i).flatten ++ ts[i].take ts[i].length = (ts.take (i + 1)).flatten := by rw [flat_take hi', List.take_length]
      refine EV.to (ih (i + 1) (by omega) (by omega)) ?_ ?_
      · clear ih ih2
        rw [← hf]
        simp [get, W]
        exact w64 (by omega) (by omega)
      · rw [← hf]
        exact List.Sublist.refl _
  · have hi3 : i = ts.length := by omega
    subst hi3
    rw [List.take_length]
    simp only [limitsP, mx, List.take_succ_cons, List.take_zero, List.foldl_cons, List.foldl_nil, List.headD_cons]
    congr 1
    have h3 : decide (ts.length ≤ 3) = true := by simpa using hlen3
    rw [h3]
    grind

end
end Go.EV

namespace Go.EV
open Go.Proofs
section
variable {M : PHeap}

def okOp (o : OpV) : Bool := mayR o.kind o.ord && mayP o.kind o.ord && fitsP o
def checkP (ts : List (List OpV)) : Int := if limitsP ts = false then 2 else if ts.length = 0 then 1 else if ts.flatten.all okOp = true then 0 else 1

theorem okOp_iff (o : OpV) : okOp o = true ↔ mayR o.kind o.ord = true ∧ mayP o.kind o.ord = true ∧ fitsP o = true := by
  simp [okOp, and_assoc]

set_option maxHeartbeats 4000000 in
theorem litmus_Check_q (ts : List (List OpV)) (s : Value) (hs : SlSl M 5 encOp s ts) (hb : Sized ts) : ConQ Try.prog 24 #[.agg #[s]] M (vi (checkP ts)) := by
  have hlim := fun G => litmus_limits_q (M := M.add G) ts s (hs.mono (PHeap.le_add _ _)) hb
  have hb' := hb.1
  have hbe := hb.2
  obtain ⟨a, c, vs, rfl, hl, hrd, hk⟩ := hs
  refine Con.enter Q44_ok (args := [.agg #[.slice a ts.length c]]) (by simp [Q44]) fun w0 => ?_
  simp only [Q44, argE]
  repeat' first
      | refine EV.seq ?_
      | refine EV.skip ?_
      | refine EV.block ?_
      | (refine EV.reg ?_; (conv => (arg 2; whnf)); (refine nx ?_; try with_reducible exact ⟨⟩))
      | (refine ConQ.call (hlim _) ?_; try (refine nx ?_; try with_reducible exact ⟨⟩))
      | (refine EV.condX rfl (fun h => ?_) (fun h => ?_) <;> try exact dead h)
      | (refine EV.ret Q44_ok ?_; simp only [wpS, wpA, wpQL, push_cast, Int.cast_ofNat_Int, reduceIte, Nat.reduceEqDiff, reduceCtorEq, Nat.reduceAdd, Nat.reduceSub, Nat.reduceMul, Int.reduceToNat, Nat.reduceLeDiff, Q44])
      | ((first | with_reducible intro b | refine xrA rfl ?_ | refine xsA rfl ?_ | fail); try (refine nx ?_; try with_reducible exact ⟨⟩))
      | fail
  · simp [checkP, h]
  · rename_i h1
    have : ts.length = 0 := by omega
    simp [checkP, this, h1]
  rename_i h1
  refine EV.to (ρ' := [(17, .slice a ts.length c), (18, vi ts.length), (19, vi (0 : Nat))]) (G' := []) ?_ (by simp (disch := omega) only [List.forall_mem_cons, List.not_mem_nil, false_implies, implies_true, and_true, true_and, get_cons, get_nil, reduceIte, Nat.reduceEqDiff, Option.some.injEq, Value.int.injEq, w64, Int.natCast_add, Int.natCast_one, Int.cast_ofNat_Int, Int.natCast_zero]) (by simp)
  refine EV.loop (fun i : Nat => ([(17, .slice a ts.length c), (18, vi ts.length), (19, vi i)], M, [])) (fun i => i ≤ ts.length ∧ (ts.take i).flatten.all okOp = true) (fun i => ts.length - i) 0 (by simp) ?_
  intro i ⟨hi, hok⟩ ih
  dsimp only at ih ⊢
  repeat' first
      | refine EV.seq ?_
      | refine EV.skip ?_
      | refine EV.block ?_
      | (refine EV.reg ?_; (conv => (arg 2; whnf)); (refine nx ?_; try with_reducible exact ⟨⟩))
      | (refine EV.condX rfl (fun h => ?_) (fun h => ?_) <;> try exact dead h)
      | (refine EV.exit rfl ?_)
      | (refine EV.ret Q44_ok ?_; simp only [wpS, wpA, wpQL, push_cast, Int.cast_ofNat_Int, reduceIte, Nat.reduceEqDiff, reduceCtorEq, Nat.reduceAdd, Nat.reduceSub, Nat.reduceMul, Int.reduceToNat, Nat.reduceLeDiff, Q44])
      | fail
  · have hi' : i < ts.length := by omega
    obtain ⟨pb, po, rfl, hat⟩ := SlSl.at hrd hl hk (by omega)
    obtain ⟨a', c', hr1, hr2⟩ := hat i hi'
    simp only [Nat.mul_one] at hr1
    have hlen : ts[i].length ≤ ts.flatten.length := by have := flat_take hi'; have h2 := flat_take_le ts (i + 1); rw [this, List.length_append] at h2; omega
    have hbi := hbe ts[i] (List.getElem_mem hi')
    have hmem : ∀ o ∈ ts[i], o ∈ ts.flatten := fun o ho => List.mem_flatten.2 ⟨ts[i], List.getElem_mem hi', ho⟩
    repeat' first
        | refine EV.seq ?_
        | refine EV.block ?_
        | (refine EV.reg ?_; (conv => (arg 2; whnf)); (refine nx ?_; try with_reducible exact ⟨⟩))
        | (refine And.intro (by omega) ?_)
        | (refine Exists.intro _ (Exists.intro _ (Exists.intro _ (And.intro (rd_M (by assumption)) ?_))); try (refine nx ?_; try with_reducible exact ⟨⟩))
        | fail
    refine EV.to (ρ' := [(17, .slice (some ⟨pb, po, none⟩) ts.length c), (18, vi ts.length), (19, vi i), (23, .slice a' ts[i].length c'), (24, vi ts[i].length), (25, vi (0 : Nat))]) (G' := []) ?_ (by simp (disch := omega) only [List.forall_mem_cons, List.not_mem_nil, false_implies, implies_true, and_true, true_and, get_cons, get_nil, reduceIte, Nat.reduceEqDiff, Option.some.injEq, Value.int.injEq, w64, Int.natCast_add, Int.natCast_one, Int.cast_ofNat_Int, Int.natCast_zero]) (by simp)
    refine EV.loop (fun j : Nat => ([(17, .slice (some ⟨pb, po, none⟩) ts.length c), (18, vi ts.length), (19, vi i), (23, .slice a' ts[i].length c'), (24, vi ts[i].length), (25, vi j)], M, [])) (fun j => j ≤ ts[i].length ∧ (ts[i].take j).all okOp = true) (fun j => ts[i].length - j) 0 (by simp) ?_
    intro j ⟨hj, hok2⟩ ih2
    dsimp only at ih2 ⊢
    repeat' first
        | refine EV.seq ?_
        | refine EV.skip ?_
        | refine EV.block ?_
        | refine EV.inBlock ?_
        | (refine EV.reg ?_; (conv => (arg 2; whnf)); (refine nx ?_; try with_reducible exact ⟨⟩))
        | (refine EV.condX rfl (fun h => ?_) (fun h => ?_) <;> try exact dead h)
        | (refine EV.exit rfl ?_)
        | fail
    · have hj' : j < ts[i].length := by omega
      obtain ⟨qb, qo, rfl, hat2⟩ := Sl.at (enc := encOp) (fun _ => rfl) (by omega) hr2 (by omega)
      have hr3 := hat2 j hj'
      repeat' first
          | refine EV.seq ?_
          | refine EV.skip ?_
          | refine EV.inBlock ?_
          | (refine EV.reg ?_; (conv => (arg 2; whnf)); (refine nx ?_; try with_reducible exact ⟨⟩))
          | ((first | refine ConQ.call (litmus_fits_q _) ?_ | refine ConQ.call (order_May_q _ _) ?_ | fail); try (refine nx ?_; try with_reducible exact ⟨⟩))
          | with_reducible assumption
          | (refine condW.merge ?_ (fun hc K' hK => ?_) ?_; rotate_left)
          | (refine EV.condX rfl (fun h => ?_) (fun h => ?_) <;> try exact dead h)
          | (refine EV.ret Q44_ok ?_; simp only [wpS, wpA, wpQL, push_cast, Int.cast_ofNat_Int, reduceIte, Nat.reduceEqDiff, reduceCtorEq, Nat.reduceAdd, Nat.reduceSub, Nat.reduceMul, Int.reduceToNat, Nat.reduceLeDiff, Q44])
          | (with_reducible intro b; try (refine nx ?_; try with_reducible exact ⟨⟩))
          | (refine And.intro (by omega) ?_)
          | ((first | refine Exists.intro _ (And.intro (rd_M (by assumption)) ?_) | refine xrA rfl ?_ | refine xiA rfl ?_ | fail); try (refine nx ?_; try with_reducible exact ⟨⟩))
          | (refine xw ?_; (refine nx ?_; try with_reducible exact ⟨⟩))
          | fail
      · have hno : okOp ts[i][j] = false := by
          cases hq : okOp ts[i][j] with
          | false => rfl
          | true => obtain ⟨q1, q2, q3⟩ := (okOp_iff _).1 hq; simp [q1, q2, q3] at h
        have hne : ts.flatten.all okOp = false := by
          rw [List.all_eq_false]
          exact ⟨ts[i][j], hmem _ (List.getElem_mem hj'), by simp [hno]⟩
        have h0 : ¬ ts.length = 0 := by omega
        simp [checkP, h1, h0, hne]
      · have hyes : okOp ts[i][j] = true := by
          rw [okOp_iff]
          grind
        refine EV.to (ih2 (j + 1) ⟨by omega, ?_⟩ (by omega)) ?_ (by simp)
        · rw [List.take_succ_eq_append_getElem hj', List.all_append, hok2]
          simp [hyes]
        · repeat' first
            | (refine List.forall_mem_cons.2 (And.intro ?_ ?_))
            | (intro _ hnil; cases hnil; done)
            | rfl
            | (refine env_w64 rfl (by first | rfl | (push_cast; first | rfl | omega)) (by omega) (by omega); done)
            | fail
    · have hj' : j = ts[i].length := by omega
      subst hj'
      refine EV.to (ih (i + 1) ⟨by omega, ?_⟩ (by omega)) ?_ (by simp)
      · rw [flat_take hi', List.all_append, hok, Bool.true_and]
        rwa [List.take_length] at hok2
      · repeat' first
          | (refine List.forall_mem_cons.2 (And.intro ?_ ?_))
          | (intro _ hnil; cases hnil; done)
          | rfl
          | (refine env_w64 rfl (by first | rfl | (push_cast; first | rfl | omega)) (by omega) (by omega); done)
          | fail
  · have hi3 : i = ts.length := by omega
    subst hi3
    rw [List.take_length] at hok
    have h0 : ¬ ts.length = 0 := by omega
    simp [checkP, hok, h1, h0]

end
end Go.EV

namespace Go.EV
open Go.Proofs

section
variable {M : PHeap}

abbrev sfence : OpV := ⟨5, 0, 0, 0, 4⟩

theorem litmus_strongFence_q : ConQ Try.prog 59 #[] M (vop sfence) := by
  refine Con.enter Q57_ok (args := []) (by simp [Q57]) fun w0 => ?_
  simp only [Q57, argE]
  repeat' first
      | refine EV.seq ?_
      | (refine EV.reg ?_; (conv => (arg 2; whnf)); (refine nx ?_; try with_reducible exact ⟨⟩))
      | (refine EV.ret Q57_ok ?_; simp only [wpS, wpA, wpQL, push_cast, Int.cast_ofNat_Int, reduceIte, Nat.reduceEqDiff, reduceCtorEq, Nat.reduceAdd, Nat.reduceSub, Nat.reduceMul, Int.reduceToNat, Nat.reduceLeDiff, Q57])
      | ((first | with_reducible intro b | refine xrA rfl ?_ | fail); try (refine nx ?_; try with_reducible exact ⟨⟩))
      | (refine xw ?_; (refine nx ?_; try with_reducible exact ⟨⟩))
      | fail
  all_goals rfl

def expOp (o : OpV) : List OpV := if accessP o = false ∨ o.ord ≠ 4 then [o] else [sfence, { o with ord := plainP o.kind o.ord }, sfence]

theorem litmus_Expand_S1_c (o : OpV) (f : Bool) (ho : okOp o = true) : Con Try.prog 57 #[vop o, vb f] M [] fun v _ G' => ∃ b, v = .slice (some ⟨b, 0, none⟩) (expOp o).length (expOp o).length ∧ G' = [(b, Cl 33 ((expOp o).flatMap encOp))] := by
  obtain ⟨q1, q2, q3⟩ := (okOp_iff o).1 ho
  refine Con.enter Q46_ok (args := [vop o, vb f]) (by simp [Q46]) fun w0 => ?_
  simp only [Q46, argE]
  repeat' first
      | refine EV.seq ?_
      | refine EV.skip ?_
      | (refine EV.reg ?_; (conv => (arg 2; whnf)); (refine nx ?_; try with_reducible exact ⟨⟩))
      | (refine ConQ.call (litmus_access_q _) ?_; try (refine nx ?_; try with_reducible exact ⟨⟩))
      | with_reducible assumption
      | (refine condW.merge ?_ (fun hc K' hK => ?_) ?_; rotate_left)
      | (refine EV.condX rfl (fun h => ?_) (fun h => ?_) <;> try exact dead h)
      | ((first | with_reducible intro b | refine xrA rfl ?_ | refine xiA rfl ?_ | fail); try (refine nx ?_; try with_reducible exact ⟨⟩))
      | fail
  · refine EV.to (ρ' := [(4, .slice (some ⟨b, 0, none⟩) 1 1)]) (G' := [(b, Cl 33 (encOp o))]) ?_ (by simp (disch := omega) only [List.forall_mem_cons, List.not_mem_nil, false_implies, implies_true, and_true, true_and, get_cons, get_nil, reduceIte, Nat.reduceEqDiff, Option.some.injEq, Value.int.injEq, w64, Int.natCast_add, Int.natCast_one, Int.cast_ofNat_Int, Int.natCast_zero]) (by simp)
    refine EV.ret Q46_ok ?_
    simp only [wpS, wpA, wpQL, push_cast, Int.cast_ofNat_Int, reduceIte, Nat.reduceEqDiff, reduceCtorEq, Nat.reduceAdd, Nat.reduceSub, Nat.reduceMul, Int.reduceToNat, Nat.reduceLeDiff, Q46]
    have he : expOp o = [o] := by simp [expOp, h]
    exact ⟨b, by rw [he]; rfl, by rw [he]; rfl⟩
  · have h5 : o.kind ≠ 5 := by
      intro h5
      have := h.1
      simp [accessP, h5] at this
    refine ConQ.call (order_Plain_q _ _ q1 q2 h5) ?_
    simp only [wpS, wpA, wpQL, push_cast, Int.cast_ofNat_Int, reduceIte, Nat.reduceEqDiff, reduceCtorEq, Nat.reduceAdd, Nat.reduceSub, Nat.reduceMul, Int.reduceToNat, Nat.reduceLeDiff]
    repeat' first
        | refine EV.seq ?_
        | (refine EV.any _ (List.Sublist.refl _) ?_; (conv => (arg 2; whnf)); (refine nx ?_; try with_reducible exact ⟨⟩))
        | ((first | refine ConQ.call (litmus_strongFence_q) ?_ | with_reducible intro b | refine xrA rfl ?_ | fail); try (refine nx ?_; try with_reducible exact ⟨⟩))
        | (refine xw ?_; (refine nx ?_; try with_reducible exact ⟨⟩))
        | (refine And.intro (PHeap.le_refl _) (And.intro (fun p hp => hp) ?_))
        | fail
    have he : expOp o = [sfence, { o with ord := plainP o.kind o.ord }, sfence] := by simp [expOp, h]
    rename_i b1
    refine EV.to (ρ' := [(4, .slice (some ⟨b, 0, none⟩) 3 3)]) (G' := [(b, Cl 33 (encOp sfence ++ encOp { o with ord := plainP o.kind o.ord } ++ encOp sfence))]) ?_ (by simp (disch := omega) only [List.forall_mem_cons, List.not_mem_nil, false_implies, implies_true, and_true, true_and, get_cons, get_nil, reduceIte, Nat.reduceEqDiff, Option.some.injEq, Value.int.injEq, w64, Int.natCast_add, Int.natCast_one, Int.cast_ofNat_Int, Int.natCast_zero]) (by simp)
    refine EV.ret Q46_ok ?_
    simp only [wpS, wpA, wpQL, push_cast, Int.cast_ofNat_Int, reduceIte, Nat.reduceEqDiff, reduceCtorEq, Nat.reduceAdd, Nat.reduceSub, Nat.reduceMul, Int.reduceToNat, Nat.reduceLeDiff, Q46]
    exact ⟨b, by rw [he]; rfl, by rw [he]; rfl⟩

end
end Go.EV

namespace Go.EV
open Go.Proofs

theorem flat1 (vs : List Value) : vs.flatMap (fun v => [v]) = vs := flatMap_single vs

end Go.EV
