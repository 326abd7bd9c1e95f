/- The program's functions, resolved. -/
import Derived.Test.YtlcpcmdgpchgbaaProg
import Derived.Test.YtlcpcmdgpchgbaaVPab
set_option maxRecDepth 8000
set_option linter.unusedSimpArgs false
set_option linter.unusedVariables false
namespace Go.EV
open Go.Proofs

/- lockless/locklesslaw05.ViewReaches -/
def Q12_0 : Sts := .op (some 2) (.box 24 (.t 0)) <|
  .op (some 4) (.mv (.c (.bool false))) <|
  .nil
def Q12_1 : Sts := .op (some 13) (.loadA 1 (.t 2)) <|
  .op (some 14) (.call 8 [(.t 13)]) <|
  .op (some 15) (.mv (.t 14)) <|
  .cnd 15 false (
  .op (some 16) (.mv (.t 1)) <|
  .op (some 17) (.len (.t 16)) <|
  .op (some 18) (.bin .gtr (.t 17) (.c (.int .i64 60))) <|
  .nil) 19 (.t 18) <|
  .nil
def Q12_2 : Sts := .op (some 20) (.call 9 []) <|
  .op (some 4) (.mv (.t 20)) <|
  .nil
def Q12_3 : Sts := .op (some 22) (.loadA 1 (.t 2)) <|
  .op (some 23) (.call 10 [(.t 22)]) <|
  .op (some 21) (.mv (.t 23)) <|
  .op (some 24) (.extract 0 (.t 21)) <|
  .op (some 25) (.extract 1 (.t 21)) <|
  .op (some 5) (.mv (.t 24)) <|
  .op (some 6) (.mv (.t 25)) <|
  .nil
def Q12_4 : Sts := .op (some 26) (.mv (.t 6)) <|
  .op (some 27) (.bin .neq (.t 26) (.c (.int .i64 0))) <|
  .op (some 28) (.mv (.t 27)) <|
  .cnd 28 false (
  .op (some 29) (.mv (.t 5)) <|
  .op (some 30) (.eqp false (.t 29)) <|
  .nil) 31 (.t 30) <|
  .nil
def Q12_5 : Sts := .op (some 32) (.call 9 []) <|
  .op (some 4) (.mv (.t 32)) <|
  .nil
def Q12_6 : Sts := .op (some 33) (.makeSl 3 1 8 [(.int .i64 0)] (.c (.int .i64 9)) (.c (.int .i64 9))) <|
  .op (some 7) (.mv (.t 33)) <|
  .nil
def Q12_7 : Sts := .op (some 8) (.mv (.c (.int .i64 0))) <|
  .nil
def Q12_8 : Sts := .op (some 34) (.mv (.t 8)) <|
  .op (some 35) (.mv (.t 1)) <|
  .op (some 36) (.len (.t 35)) <|
  .op (some 37) (.bin .lss (.t 34) (.t 36)) <|
  .nil
def Q12_9 : AT := .q (.op 0 (some 40) (.mv (.t 5)) <|
  .op 1 (some 41) (.mv (.t 1)) <|
  .op 2 (some 42) (.mv (.t 8)) <|
  .op 3 (some 43) (.iaddrS 2 (.t 41) (.t 42)) <|
  .op 4 (some 44) (.iaddrA 2 1 (.t 43) (.c (.int .i64 0))) <|
  .op 5 (some 45) (.loadI .i64 (.t 44)) <|
  .op 6 (some 46) (.mv (.t 1)) <|
  .op 7 (some 47) (.mv (.t 8)) <|
  .op 8 (some 48) (.iaddrS 2 (.t 46) (.t 47)) <|
  .op 9 (some 49) (.iaddrA 2 1 (.t 48) (.c (.int .i64 1))) <|
  .op 10 (some 50) (.loadI .i64 (.t 49)) <|
  .nil) <|
  .s 11 (some 51) (.call 11 [(.t 40), (.t 45), (.t 50)]) true (
  .q (.nil) <|
  .fin) <|
  .no
def Q12_10 : Sts := .op (some 9) (.mv (.c (.int .i64 0))) <|
  .nil
def Q12_11 : Sts := .op (some 52) (.mv (.t 9)) <|
  .op (some 53) (.faddr 0 (.t 2)) <|
  .op (some 54) (.loadS (.t 53)) <|
  .op (some 55) (.len (.t 54)) <|
  .op (some 56) (.bin .lss (.t 52) (.t 55)) <|
  .nil
def Q12_12 : Sts := .op (some 10) (.mv (.c (.int .i64 0))) <|
  .nil
def Q12_13 : Sts := .op (some 59) (.mv (.t 10)) <|
  .op (some 60) (.bin .lss (.t 59) (.c (.int .i64 3))) <|
  .nil
def Q12_14 : Sts := .op (some 64) (.mv (.t 5)) <|
  .op (some 65) (.mv (.t 9)) <|
  .op (some 66) (.mv (.t 10)) <|
  .op (some 67) (.call 12 [(.t 64), (.t 65), (.t 66)]) <|
  .op (some 63) (.mv (.t 67)) <|
  .op (some 68) (.extract 0 (.t 63)) <|
  .op (some 69) (.extract 1 (.t 63)) <|
  .op (some 11) (.mv (.t 68)) <|
  .op (some 12) (.mv (.t 69)) <|
  .nil
def Q12_15 : Sts := .op (some 70) (.mv (.t 12)) <|
  .op (some 71) (.bin .neq (.t 70) (.c (.int .i64 0))) <|
  .op (some 72) (.mv (.t 71)) <|
  .cnd 72 false (
  .op (some 73) (.mv (.t 11)) <|
  .op (some 74) (.mv (.t 7)) <|
  .op (some 75) (.mv (.t 9)) <|
  .op (some 76) (.bin .mul (.t 75) (.c (.int .i64 3))) <|
  .op (some 77) (.mv (.t 10)) <|
  .op (some 78) (.bin .add (.t 76) (.t 77)) <|
  .op (some 79) (.iaddrS 1 (.t 74) (.t 78)) <|
  .op (some 80) (.loadI .i64 (.t 79)) <|
  .op (some 81) (.bin .lss (.t 73) (.t 80)) <|
  .nil) 82 (.t 81) <|
  .nil
def Q12_16 : Sts := .op (some 4) (.mv (.c (.bool false))) <|
  .nil
def Q12_17 : Sts := .op (some 83) (.mv (.t 7)) <|
  .op (some 84) (.mv (.t 9)) <|
  .op (some 85) (.bin .mul (.t 84) (.c (.int .i64 3))) <|
  .op (some 86) (.mv (.t 10)) <|
  .op (some 87) (.bin .add (.t 85) (.t 86)) <|
  .op (some 88) (.mv (.t 11)) <|
  .op (some 89) (.iaddrS 1 (.t 83) (.t 87)) <|
  .op none (.store 1 (.t 89) (.t 88)) <|
  .nil
def Q12_18 : Sts := .op (some 61) (.mv (.t 10)) <|
  .op (some 62) (.bin .add (.t 61) (.c (.int .i64 1))) <|
  .op (some 10) (.mv (.t 62)) <|
  .nil
def Q12_L19 : RCode := (.seq (.seq (.reg Q12_13) (.cond (.t 60) .skip (.exit 4))) (.seq (.block 5 (.seq (.reg Q12_14) (.seq (.seq (.reg Q12_15) (.cond (.t 82) (.seq (.reg Q12_16) .ret) .skip)) (.reg Q12_17)))) (.reg Q12_18)))
def Q12_19 : Sts := .op (some 57) (.mv (.t 9)) <|
  .op (some 58) (.bin .add (.t 57) (.c (.int .i64 1))) <|
  .op (some 9) (.mv (.t 58)) <|
  .nil
def Q12_L20 : RCode := (.seq (.seq (.reg Q12_11) (.cond (.t 56) .skip (.exit 2))) (.seq (.block 3 (.seq (.reg Q12_12) (.block 4 (.loop Q12_L19)))) (.reg Q12_19)))
def Q12_20 : Sts := .op (some 38) (.mv (.t 8)) <|
  .op (some 39) (.bin .add (.t 38) (.c (.int .i64 1))) <|
  .op (some 8) (.mv (.t 39)) <|
  .nil
def Q12_L21 : RCode := (.seq (.seq (.reg Q12_8) (.cond (.t 37) .skip (.exit 0))) (.seq (.block 1 (.seq (.any Q12_9) (.seq (.reg Q12_10) (.block 2 (.loop Q12_L20))))) (.reg Q12_20)))
def Q12_21 : Sts := .op (some 90) (.call 9 []) <|
  .op (some 4) (.mv (.t 90)) <|
  .nil
def Q12 : RFun := ⟨91, [0, 1, 2, 4, 5, 6, 7, 8, 9, 10, 11, 12], (.seq (.reg Q12_0) (.seq (.seq (.reg Q12_1) (.cond (.t 19) (.seq (.reg Q12_2) .ret) .skip)) (.seq (.reg Q12_3) (.seq (.seq (.reg Q12_4) (.cond (.t 31) (.seq (.reg Q12_5) .ret) .skip)) (.seq (.reg Q12_6) (.seq (.seq (.reg Q12_7) (.block 0 (.loop Q12_L21))) (.seq (.reg Q12_21) .ret))))))), [.tmp 4]⟩
theorem Q12_ok : compF Try.prog [0, 1, 2, 4, 5, 6, 7, 8, 9, 10, 11, 12] [28, 33, 19, 32, 29, 30, 73] 3 = some Q12 := by kernel_rfl

/- lockless/locklesslaw05.ViewPlays -/
def Q11_0 : Sts := .op (some 2) (.box 24 (.t 0)) <|
  .op (some 4) (.mv (.c (.bool false))) <|
  .nil
def Q11_1 : Sts := .op (some 12) (.loadA 1 (.t 2)) <|
  .op (some 13) (.call 8 [(.t 12)]) <|
  .op (some 14) (.mv (.t 13)) <|
  .cnd 14 false (
  .op (some 15) (.mv (.t 1)) <|
  .op (some 16) (.len (.t 15)) <|
  .op (some 17) (.bin .gtr (.t 16) (.c (.int .i64 200))) <|
  .nil) 18 (.t 17) <|
  .nil
def Q11_2 : Sts := .op (some 19) (.call 9 []) <|
  .op (some 4) (.mv (.t 19)) <|
  .nil
def Q11_3 : Sts := .op (some 20) (.loadA 1 (.t 2)) <|
  .op (some 21) (.call 13 [(.t 20)]) <|
  .op (some 5) (.alloc 24 [(.slice none 0 0)]) <|
  .op none (.store 1 (.t 5) (.t 21)) <|
  .nil
def Q11_4 : Sts := .op (some 22) (.buildSl 34 0 [] []) <|
  .op (some 23) (.mv (.t 1)) <|
  .op (some 24) (.append 34 2 16 [(.int .i64 0), (.int .i64 0)] (.t 22) (.t 23)) <|
  .op (some 6) (.mv (.t 24)) <|
  .nil
def Q11_5 : Sts := .op (some 26) (.loadA 1 (.t 2)) <|
  .op (some 27) (.mv (.t 1)) <|
  .op (some 28) (.call 14 [(.t 26), (.t 27)]) <|
  .op (some 25) (.mv (.t 28)) <|
  .op (some 29) (.extract 0 (.t 25)) <|
  .op (some 30) (.extract 1 (.t 25)) <|
  .op (some 7) (.mv (.t 29)) <|
  .op (some 8) (.mv (.t 30)) <|
  .nil
def Q11_6 : Sts := .op (some 32) (.loadA 1 (.t 5)) <|
  .op (some 33) (.mv (.t 6)) <|
  .op (some 34) (.call 15 [(.t 32), (.t 33)]) <|
  .op (some 31) (.mv (.t 34)) <|
  .op (some 35) (.extract 0 (.t 31)) <|
  .op (some 36) (.extract 1 (.t 31)) <|
  .op (some 9) (.mv (.t 35)) <|
  .op (some 10) (.mv (.t 36)) <|
  .nil
def Q11_7 : Sts := .op (some 37) (.mv (.t 8)) <|
  .op (some 38) (.mv (.t 10)) <|
  .op (some 39) (.bin .neq (.t 37) (.t 38)) <|
  .op (some 40) (.mv (.t 39)) <|
  .cnd 40 false (
  .op (some 41) (.mv (.t 7)) <|
  .op (some 42) (.mv (.t 9)) <|
  .op (some 43) (.call 16 [(.t 41), (.t 42)]) <|
  .op (some 44) (.notb (.t 43)) <|
  .nil) 45 (.t 44) <|
  .op (some 46) (.mv (.t 45)) <|
  .cnd 46 false (
  .op (some 47) (.loadA 1 (.t 2)) <|
  .op (some 48) (.loadA 1 (.t 5)) <|
  .op (some 49) (.call 17 [(.t 47), (.t 48)]) <|
  .op (some 50) (.notb (.t 49)) <|
  .nil) 51 (.t 50) <|
  .nil
def Q11_8 : Sts := .op (some 4) (.mv (.c (.bool false))) <|
  .nil
def Q11_9 : Sts := .op (some 11) (.mv (.c (.int .i64 0))) <|
  .nil
def Q11_10 : Sts := .op (some 52) (.mv (.t 11)) <|
  .op (some 53) (.mv (.t 6)) <|
  .op (some 54) (.len (.t 53)) <|
  .op (some 55) (.bin .lss (.t 52) (.t 54)) <|
  .nil
def Q11_11 : AT := .q (.op 0 (some 58) (.mv (.t 6)) <|
  .op 1 (some 59) (.mv (.t 11)) <|
  .op 2 (some 60) (.iaddrS 2 (.t 58) (.t 59)) <|
  .op 3 (some 61) (.loadA 2 (.t 60)) <|
  .op 4 (some 62) (.mv (.t 1)) <|
  .op 5 (some 63) (.mv (.t 11)) <|
  .op 6 (some 64) (.iaddrS 2 (.t 62) (.t 63)) <|
  .op 7 (some 65) (.loadA 2 (.t 64)) <|
  .op 8 (some 66) (.eqA true [.i, .i] (.t 61) (.t 65)) <|
  .nil) <|
  .fin
def Q11_12 : Sts := .op (some 4) (.mv (.c (.bool false))) <|
  .nil
def Q11_13 : Sts := .op (some 56) (.mv (.t 11)) <|
  .op (some 57) (.bin .add (.t 56) (.c (.int .i64 1))) <|
  .op (some 11) (.mv (.t 57)) <|
  .nil
def Q11_L14 : RCode := (.seq (.seq (.reg Q11_10) (.cond (.t 55) .skip (.exit 0))) (.seq (.block 1 (.seq (.any Q11_11) (.cond (.t 66) (.seq (.reg Q11_12) .ret) .skip))) (.reg Q11_13)))
def Q11_14 : Sts := .op (some 67) (.call 9 []) <|
  .op (some 4) (.mv (.t 67)) <|
  .nil
def Q11 : RFun := ⟨68, [0, 1, 2, 4, 5, 6, 7, 8, 9, 10, 11], (.seq (.reg Q11_0) (.seq (.seq (.reg Q11_1) (.cond (.t 18) (.seq (.reg Q11_2) .ret) .skip)) (.seq (.reg Q11_3) (.seq (.reg Q11_4) (.seq (.reg Q11_5) (.seq (.reg Q11_6) (.seq (.seq (.reg Q11_7) (.cond (.t 51) (.seq (.reg Q11_8) .ret) .skip)) (.seq (.seq (.reg Q11_9) (.block 0 (.loop Q11_L14))) (.seq (.reg Q11_14) .ret))))))))), [.tmp 4]⟩
theorem Q11_ok : compF Try.prog [0, 1, 2, 4, 5, 6, 7, 8, 9, 10, 11] [28, 33, 19, 32, 29, 30, 73] 4 = some Q11 := by kernel_rfl

/- lockless/locklesslaw05.ViewSteps -/
def Q13_0 : Sts := .op (some 2) (.box 24 (.t 0)) <|
  .op (some 4) (.mv (.c (.bool false))) <|
  .nil
def Q13_1 : Sts := .op (some 10) (.loadA 1 (.t 2)) <|
  .op (some 11) (.call 8 [(.t 10)]) <|
  .op (some 12) (.mv (.t 11)) <|
  .cnd 12 false (
  .op (some 13) (.mv (.t 1)) <|
  .op (some 14) (.len (.t 13)) <|
  .op (some 15) (.bin .gtr (.t 14) (.c (.int .i64 60))) <|
  .nil) 16 (.t 15) <|
  .nil
def Q13_2 : Sts := .op (some 17) (.call 9 []) <|
  .op (some 4) (.mv (.t 17)) <|
  .nil
def Q13_3 : Sts := .op (some 19) (.loadA 1 (.t 2)) <|
  .op (some 20) (.call 10 [(.t 19)]) <|
  .op (some 18) (.mv (.t 20)) <|
  .op (some 21) (.extract 0 (.t 18)) <|
  .op (some 22) (.extract 1 (.t 18)) <|
  .op (some 5) (.mv (.t 21)) <|
  .op (some 6) (.mv (.t 22)) <|
  .nil
def Q13_4 : Sts := .op (some 24) (.loadA 1 (.t 2)) <|
  .op (some 25) (.call 18 [(.t 24)]) <|
  .op (some 23) (.mv (.t 25)) <|
  .op (some 26) (.extract 0 (.t 23)) <|
  .op (some 27) (.extract 1 (.t 23)) <|
  .op (some 7) (.mv (.t 26)) <|
  .op (some 8) (.mv (.t 27)) <|
  .nil
def Q13_5 : Sts := .op (some 28) (.mv (.t 6)) <|
  .op (some 29) (.mv (.t 8)) <|
  .op (some 30) (.bin .neq (.t 28) (.t 29)) <|
  .op (some 31) (.mv (.t 30)) <|
  .cnd 31 false (
  .op (some 32) (.mv (.t 5)) <|
  .op (some 33) (.eqp false (.t 32)) <|
  .op (some 34) (.mv (.t 7)) <|
  .op (some 35) (.eqp false (.t 34)) <|
  .op (some 36) (.eqb true (.t 33) (.t 35)) <|
  .nil) 37 (.t 36) <|
  .nil
def Q13_6 : Sts := .op (some 4) (.mv (.c (.bool false))) <|
  .nil
def Q13_7 : Sts := .op (some 38) (.mv (.t 5)) <|
  .op (some 39) (.eqp false (.t 38)) <|
  .nil
def Q13_8 : Sts := .op (some 40) (.call 9 []) <|
  .op (some 4) (.mv (.t 40)) <|
  .nil
def Q13_9 : Sts := .op (some 41) (.mv (.t 5)) <|
  .op (some 42) (.mv (.t 7)) <|
  .op (some 43) (.call 19 [(.t 41), (.t 42)]) <|
  .op (some 44) (.notb (.t 43)) <|
  .nil
def Q13_10 : Sts := .op (some 4) (.mv (.c (.bool false))) <|
  .nil
def Q13_11 : Sts := .op (some 9) (.mv (.c (.int .i64 0))) <|
  .nil
def Q13_12 : Sts := .op (some 45) (.mv (.t 9)) <|
  .op (some 46) (.mv (.t 1)) <|
  .op (some 47) (.len (.t 46)) <|
  .op (some 48) (.bin .lss (.t 45) (.t 47)) <|
  .nil
def Q13_13 : AT := .q (.op 0 (some 51) (.mv (.t 5)) <|
  .op 1 (some 52) (.mv (.t 1)) <|
  .op 2 (some 53) (.mv (.t 9)) <|
  .op 3 (some 54) (.iaddrS 2 (.t 52) (.t 53)) <|
  .op 4 (some 55) (.iaddrA 2 1 (.t 54) (.c (.int .i64 0))) <|
  .op 5 (some 56) (.loadI .i64 (.t 55)) <|
  .op 6 (some 57) (.mv (.t 1)) <|
  .op 7 (some 58) (.mv (.t 9)) <|
  .op 8 (some 59) (.iaddrS 2 (.t 57) (.t 58)) <|
  .op 9 (some 60) (.iaddrA 2 1 (.t 59) (.c (.int .i64 1))) <|
  .op 10 (some 61) (.loadI .i64 (.t 60)) <|
  .op 12 (some 63) (.mv (.t 7)) <|
  .op 13 (some 64) (.mv (.t 1)) <|
  .op 14 (some 65) (.mv (.t 9)) <|
  .op 15 (some 66) (.iaddrS 2 (.t 64) (.t 65)) <|
  .op 16 (some 67) (.iaddrA 2 1 (.t 66) (.c (.int .i64 0))) <|
  .op 17 (some 68) (.loadI .i64 (.t 67)) <|
  .op 18 (some 69) (.mv (.t 1)) <|
  .op 19 (some 70) (.mv (.t 9)) <|
  .op 20 (some 71) (.iaddrS 2 (.t 69) (.t 70)) <|
  .op 21 (some 72) (.iaddrA 2 1 (.t 71) (.c (.int .i64 1))) <|
  .op 22 (some 73) (.loadI .i64 (.t 72)) <|
  .nil) <|
  .s 11 (some 62) (.call 11 [(.t 51), (.t 56), (.t 61)]) false (
  .q (.nil) <|
  .s 23 (some 74) (.call 20 [(.t 63), (.t 68), (.t 73)]) true (
  .q (.op 24 (some 75) (.bin .neq (.t 62) (.t 74)) <|
  .op 25 (some 76) (.mv (.t 75)) <|
  .g 76 false (
  .op 26 (some 77) (.mv (.t 5)) <|
  .op 27 (some 78) (.mv (.t 7)) <|
  .op 28 (some 79) (.call 19 [(.t 77), (.t 78)]) <|
  .op 29 (some 80) (.notb (.t 79)) <|
  .nil) 30 81 (.t 80) <|
  .nil) <|
  .fin) <|
  .no) <|
  .no
def Q13_14 : Sts := .op (some 4) (.mv (.c (.bool false))) <|
  .nil
def Q13_15 : Sts := .op (some 49) (.mv (.t 9)) <|
  .op (some 50) (.bin .add (.t 49) (.c (.int .i64 1))) <|
  .op (some 9) (.mv (.t 50)) <|
  .nil
def Q13_L16 : RCode := (.seq (.seq (.reg Q13_12) (.cond (.t 48) .skip (.exit 0))) (.seq (.block 1 (.seq (.any Q13_13) (.cond (.t 81) (.seq (.reg Q13_14) .ret) .skip))) (.reg Q13_15)))
def Q13_16 : Sts := .op (some 82) (.call 9 []) <|
  .op (some 4) (.mv (.t 82)) <|
  .nil
def Q13 : RFun := ⟨83, [0, 1, 2, 4, 5, 6, 7, 8, 9], (.seq (.reg Q13_0) (.seq (.seq (.reg Q13_1) (.cond (.t 16) (.seq (.reg Q13_2) .ret) .skip)) (.seq (.reg Q13_3) (.seq (.reg Q13_4) (.seq (.seq (.reg Q13_5) (.cond (.t 37) (.seq (.reg Q13_6) .ret) .skip)) (.seq (.seq (.reg Q13_7) (.cond (.t 39) (.seq (.reg Q13_8) .ret) .skip)) (.seq (.seq (.reg Q13_9) (.cond (.t 44) (.seq (.reg Q13_10) .ret) .skip)) (.seq (.seq (.reg Q13_11) (.block 0 (.loop Q13_L16))) (.seq (.reg Q13_16) .ret))))))))), [.tmp 4]⟩
theorem Q13_ok : compF Try.prog [0, 1, 2, 4, 5, 6, 7, 8, 9] [28, 33, 19, 32, 29, 30, 73] 5 = some Q13 := by kernel_rfl

/- lockless/locklesslaw05.ViewCopies -/
def Q9_0 : Sts := .op (some 3) (.box 24 (.t 0)) <|
  .op (some 6) (.mv (.c (.bool false))) <|
  .nil
def Q9_1 : Sts := .op (some 15) (.loadA 1 (.t 3)) <|
  .op (some 16) (.call 8 [(.t 15)]) <|
  .op (some 17) (.mv (.t 16)) <|
  .cnd 17 false (
  .op (some 18) (.mv (.t 1)) <|
  .op (some 19) (.len (.t 18)) <|
  .op (some 20) (.bin .gtr (.t 19) (.c (.int .i64 40))) <|
  .nil) 21 (.t 20) <|
  .op (some 22) (.mv (.t 21)) <|
  .cnd 22 false (
  .op (some 23) (.mv (.t 2)) <|
  .op (some 24) (.len (.t 23)) <|
  .op (some 25) (.bin .gtr (.t 24) (.c (.int .i64 40))) <|
  .nil) 26 (.t 25) <|
  .nil
def Q9_2 : Sts := .op (some 27) (.call 9 []) <|
  .op (some 6) (.mv (.t 27)) <|
  .nil
def Q9_3 : Sts := .op (some 29) (.loadA 1 (.t 3)) <|
  .op (some 30) (.call 10 [(.t 29)]) <|
  .op (some 28) (.mv (.t 30)) <|
  .op (some 31) (.extract 0 (.t 28)) <|
  .op (some 32) (.extract 1 (.t 28)) <|
  .op (some 7) (.mv (.t 31)) <|
  .op (some 8) (.mv (.t 32)) <|
  .nil
def Q9_4 : Sts := .op (some 34) (.loadA 1 (.t 3)) <|
  .op (some 35) (.call 18 [(.t 34)]) <|
  .op (some 33) (.mv (.t 35)) <|
  .op (some 36) (.extract 0 (.t 33)) <|
  .op (some 37) (.extract 1 (.t 33)) <|
  .op (some 9) (.mv (.t 36)) <|
  .op (some 10) (.mv (.t 37)) <|
  .nil
def Q9_5 : Sts := .op (some 38) (.mv (.t 8)) <|
  .op (some 39) (.mv (.t 10)) <|
  .op (some 40) (.bin .neq (.t 38) (.t 39)) <|
  .op (some 41) (.mv (.t 40)) <|
  .cnd 41 false (
  .op (some 42) (.mv (.t 7)) <|
  .op (some 43) (.eqp false (.t 42)) <|
  .op (some 44) (.mv (.t 9)) <|
  .op (some 45) (.eqp false (.t 44)) <|
  .op (some 46) (.eqb true (.t 43) (.t 45)) <|
  .nil) 47 (.t 46) <|
  .nil
def Q9_6 : Sts := .op (some 6) (.mv (.c (.bool false))) <|
  .nil
def Q9_7 : Sts := .op (some 48) (.mv (.t 7)) <|
  .op (some 49) (.eqp false (.t 48)) <|
  .nil
def Q9_8 : Sts := .op (some 50) (.call 9 []) <|
  .op (some 6) (.mv (.t 50)) <|
  .nil
def Q9_9 : Sts := .op (some 11) (.mv (.c (.int .i64 0))) <|
  .nil
def Q9_10 : Sts := .op (some 51) (.mv (.t 11)) <|
  .op (some 52) (.mv (.t 1)) <|
  .op (some 53) (.len (.t 52)) <|
  .op (some 54) (.bin .lss (.t 51) (.t 53)) <|
  .nil
def Q9_11 : AT := .q (.op 0 (some 57) (.mv (.t 7)) <|
  .op 1 (some 58) (.mv (.t 1)) <|
  .op 2 (some 59) (.mv (.t 11)) <|
  .op 3 (some 60) (.iaddrS 2 (.t 58) (.t 59)) <|
  .op 4 (some 61) (.iaddrA 2 1 (.t 60) (.c (.int .i64 0))) <|
  .op 5 (some 62) (.loadI .i64 (.t 61)) <|
  .op 6 (some 63) (.mv (.t 1)) <|
  .op 7 (some 64) (.mv (.t 11)) <|
  .op 8 (some 65) (.iaddrS 2 (.t 63) (.t 64)) <|
  .op 9 (some 66) (.iaddrA 2 1 (.t 65) (.c (.int .i64 1))) <|
  .op 10 (some 67) (.loadI .i64 (.t 66)) <|
  .nil) <|
  .s 11 (some 68) (.call 11 [(.t 57), (.t 62), (.t 67)]) true (
  .q (.nil) <|
  .fin) <|
  .no
def Q9_12 : AT := .q (.op 0 (some 69) (.mv (.t 9)) <|
  .op 1 (some 70) (.mv (.t 1)) <|
  .op 2 (some 71) (.mv (.t 11)) <|
  .op 3 (some 72) (.iaddrS 2 (.t 70) (.t 71)) <|
  .op 4 (some 73) (.iaddrA 2 1 (.t 72) (.c (.int .i64 0))) <|
  .op 5 (some 74) (.loadI .i64 (.t 73)) <|
  .op 6 (some 75) (.mv (.t 1)) <|
  .op 7 (some 76) (.mv (.t 11)) <|
  .op 8 (some 77) (.iaddrS 2 (.t 75) (.t 76)) <|
  .op 9 (some 78) (.iaddrA 2 1 (.t 77) (.c (.int .i64 1))) <|
  .op 10 (some 79) (.loadI .i64 (.t 78)) <|
  .nil) <|
  .s 11 (some 80) (.call 20 [(.t 69), (.t 74), (.t 79)]) true (
  .q (.nil) <|
  .fin) <|
  .no
def Q9_13 : Sts := .op (some 55) (.mv (.t 11)) <|
  .op (some 56) (.bin .add (.t 55) (.c (.int .i64 1))) <|
  .op (some 11) (.mv (.t 56)) <|
  .nil
def Q9_L14 : RCode := (.seq (.seq (.reg Q9_10) (.cond (.t 54) .skip (.exit 0))) (.seq (.block 1 (.seq (.any Q9_11) (.any Q9_12))) (.reg Q9_13)))
def Q9_14 : Sts := .op (some 81) (.mv (.t 7)) <|
  .op (some 82) (.call 21 [(.t 81)]) <|
  .op (some 12) (.mv (.t 82)) <|
  .nil
def Q9_15 : Sts := .op (some 83) (.mv (.t 12)) <|
  .op (some 84) (.eqp false (.t 83)) <|
  .op (some 85) (.mv (.t 84)) <|
  .cnd 85 false (
  .op (some 86) (.mv (.t 12)) <|
  .op (some 87) (.mv (.t 9)) <|
  .op (some 88) (.call 19 [(.t 86), (.t 87)]) <|
  .op (some 89) (.notb (.t 88)) <|
  .nil) 90 (.t 89) <|
  .nil
def Q9_16 : Sts := .op (some 6) (.mv (.c (.bool false))) <|
  .nil
def Q9_17 : Sts := .op (some 13) (.mv (.c (.int .i64 0))) <|
  .nil
def Q9_18 : Sts := .op (some 91) (.mv (.t 13)) <|
  .op (some 92) (.mv (.t 2)) <|
  .op (some 93) (.len (.t 92)) <|
  .op (some 94) (.bin .lss (.t 91) (.t 93)) <|
  .nil
def Q9_19 : AT := .q (.op 0 (some 97) (.mv (.t 12)) <|
  .op 1 (some 98) (.mv (.t 2)) <|
  .op 2 (some 99) (.mv (.t 13)) <|
  .op 3 (some 100) (.iaddrS 2 (.t 98) (.t 99)) <|
  .op 4 (some 101) (.iaddrA 2 1 (.t 100) (.c (.int .i64 0))) <|
  .op 5 (some 102) (.loadI .i64 (.t 101)) <|
  .op 6 (some 103) (.mv (.t 2)) <|
  .op 7 (some 104) (.mv (.t 13)) <|
  .op 8 (some 105) (.iaddrS 2 (.t 103) (.t 104)) <|
  .op 9 (some 106) (.iaddrA 2 1 (.t 105) (.c (.int .i64 1))) <|
  .op 10 (some 107) (.loadI .i64 (.t 106)) <|
  .nil) <|
  .s 11 (some 108) (.call 11 [(.t 97), (.t 102), (.t 107)]) true (
  .q (.nil) <|
  .fin) <|
  .no
def Q9_20 : Sts := .op (some 95) (.mv (.t 13)) <|
  .op (some 96) (.bin .add (.t 95) (.c (.int .i64 1))) <|
  .op (some 13) (.mv (.t 96)) <|
  .nil
def Q9_L21 : RCode := (.seq (.seq (.reg Q9_18) (.cond (.t 94) .skip (.exit 2))) (.seq (.block 3 (.any Q9_19)) (.reg Q9_20)))
def Q9_21 : Sts := .op (some 109) (.mv (.t 7)) <|
  .op (some 110) (.mv (.t 9)) <|
  .op (some 111) (.call 19 [(.t 109), (.t 110)]) <|
  .op (some 112) (.notb (.t 111)) <|
  .nil
def Q9_22 : Sts := .op (some 6) (.mv (.c (.bool false))) <|
  .nil
def Q9_23 : Sts := .op (some 14) (.mv (.c (.int .i64 0))) <|
  .nil
def Q9_24 : Sts := .op (some 113) (.mv (.t 14)) <|
  .op (some 114) (.mv (.t 2)) <|
  .op (some 115) (.len (.t 114)) <|
  .op (some 116) (.bin .lss (.t 113) (.t 115)) <|
  .nil
def Q9_25 : AT := .q (.op 0 (some 119) (.mv (.t 7)) <|
  .op 1 (some 120) (.mv (.t 2)) <|
  .op 2 (some 121) (.mv (.t 14)) <|
  .op 3 (some 122) (.iaddrS 2 (.t 120) (.t 121)) <|
  .op 4 (some 123) (.iaddrA 2 1 (.t 122) (.c (.int .i64 0))) <|
  .op 5 (some 124) (.loadI .i64 (.t 123)) <|
  .op 6 (some 125) (.mv (.t 2)) <|
  .op 7 (some 126) (.mv (.t 14)) <|
  .op 8 (some 127) (.iaddrS 2 (.t 125) (.t 126)) <|
  .op 9 (some 128) (.iaddrA 2 1 (.t 127) (.c (.int .i64 1))) <|
  .op 10 (some 129) (.loadI .i64 (.t 128)) <|
  .nil) <|
  .s 11 (some 130) (.call 11 [(.t 119), (.t 124), (.t 129)]) true (
  .q (.nil) <|
  .fin) <|
  .no
def Q9_26 : AT := .q (.op 0 (some 131) (.mv (.t 9)) <|
  .op 1 (some 132) (.mv (.t 2)) <|
  .op 2 (some 133) (.mv (.t 14)) <|
  .op 3 (some 134) (.iaddrS 2 (.t 132) (.t 133)) <|
  .op 4 (some 135) (.iaddrA 2 1 (.t 134) (.c (.int .i64 0))) <|
  .op 5 (some 136) (.loadI .i64 (.t 135)) <|
  .op 6 (some 137) (.mv (.t 2)) <|
  .op 7 (some 138) (.mv (.t 14)) <|
  .op 8 (some 139) (.iaddrS 2 (.t 137) (.t 138)) <|
  .op 9 (some 140) (.iaddrA 2 1 (.t 139) (.c (.int .i64 1))) <|
  .op 10 (some 141) (.loadI .i64 (.t 140)) <|
  .nil) <|
  .s 11 (some 142) (.call 20 [(.t 131), (.t 136), (.t 141)]) true (
  .q (.nil) <|
  .fin) <|
  .no
def Q9_27 : Sts := .op (some 117) (.mv (.t 14)) <|
  .op (some 118) (.bin .add (.t 117) (.c (.int .i64 1))) <|
  .op (some 14) (.mv (.t 118)) <|
  .nil
def Q9_L28 : RCode := (.seq (.seq (.reg Q9_24) (.cond (.t 116) .skip (.exit 4))) (.seq (.block 5 (.seq (.any Q9_25) (.any Q9_26))) (.reg Q9_27)))
def Q9_28 : Sts := .op (some 143) (.mv (.t 7)) <|
  .op (some 144) (.mv (.t 9)) <|
  .op (some 145) (.call 19 [(.t 143), (.t 144)]) <|
  .op (some 146) (.mv (.t 145)) <|
  .cnd 146 true (
  .op (some 147) (.mv (.t 12)) <|
  .op (some 148) (.mv (.t 9)) <|
  .op (some 149) (.call 19 [(.t 147), (.t 148)]) <|
  .nil) 150 (.t 149) <|
  .op (some 151) (.mv (.t 150)) <|
  .cnd 151 true (
  .op (some 152) (.call 9 []) <|
  .nil) 153 (.t 152) <|
  .op (some 6) (.mv (.t 153)) <|
  .nil
def Q9 : RFun := ⟨154, [0, 1, 2, 3, 6, 7, 8, 9, 10, 11, 12, 13, 14], (.seq (.reg Q9_0) (.seq (.seq (.reg Q9_1) (.cond (.t 26) (.seq (.reg Q9_2) .ret) .skip)) (.seq (.reg Q9_3) (.seq (.reg Q9_4) (.seq (.seq (.reg Q9_5) (.cond (.t 47) (.seq (.reg Q9_6) .ret) .skip)) (.seq (.seq (.reg Q9_7) (.cond (.t 49) (.seq (.reg Q9_8) .ret) .skip)) (.seq (.seq (.reg Q9_9) (.block 0 (.loop Q9_L14))) (.seq (.reg Q9_14) (.seq (.seq (.reg Q9_15) (.cond (.t 90) (.seq (.reg Q9_16) .ret) .skip)) (.seq (.seq (.reg Q9_17) (.block 2 (.loop Q9_L21))) (.seq (.seq (.reg Q9_21) (.cond (.t 112) (.seq (.reg Q9_22) .ret) .skip)) (.seq (.seq (.reg Q9_23) (.block 4 (.loop Q9_L28))) (.seq (.reg Q9_28) .ret))))))))))))), [.tmp 6]⟩
theorem Q9_ok : compF Try.prog [0, 1, 2, 3, 6, 7, 8, 9, 10, 11, 12, 13, 14] [28, 33, 19, 32, 29, 30, 73] 6 = some Q9 := by kernel_rfl

/- lockless/locklesslaw05.ViewNothing -/
def Q10_0 : Sts := .op (some 6) (.mv (.c (.bool false))) <|
  .nil
def Q10_1 : Sts := .op (some 7) (.mv (.c (.pointer none))) <|
  .nil
def Q10_2 : Sts := .op (some 19) (.mv (.t 7)) <|
  .op (some 20) (.mv (.t 0)) <|
  .op (some 21) (.call 22 [(.t 19), (.t 20)]) <|
  .op (some 18) (.mv (.t 21)) <|
  .op (some 22) (.extract 0 (.t 18)) <|
  .op (some 23) (.extract 1 (.t 18)) <|
  .op (some 8) (.mv (.t 22)) <|
  .op (some 9) (.mv (.t 23)) <|
  .nil
def Q10_3 : Sts := .op (some 25) (.mv (.t 7)) <|
  .op (some 26) (.mv (.t 0)) <|
  .op (some 27) (.call 23 [(.t 25), (.t 26)]) <|
  .op (some 24) (.mv (.t 27)) <|
  .op (some 28) (.extract 0 (.t 24)) <|
  .op (some 29) (.extract 1 (.t 24)) <|
  .op (some 10) (.mv (.t 28)) <|
  .op (some 11) (.mv (.t 29)) <|
  .nil
def Q10_4 : Sts := .op (some 31) (.mv (.t 7)) <|
  .op (some 32) (.mv (.t 2)) <|
  .op (some 33) (.call 24 [(.t 31), (.t 32)]) <|
  .op (some 30) (.mv (.t 33)) <|
  .op (some 34) (.extract 0 (.t 30)) <|
  .op (some 35) (.extract 1 (.t 30)) <|
  .op (some 12) (.mv (.t 34)) <|
  .op (some 13) (.mv (.t 35)) <|
  .nil
def Q10_5 : Sts := .op (some 37) (.mv (.t 7)) <|
  .op (some 38) (.mv (.t 0)) <|
  .op (some 39) (.mv (.t 2)) <|
  .op (some 40) (.call 12 [(.t 37), (.t 38), (.t 39)]) <|
  .op (some 36) (.mv (.t 40)) <|
  .op (some 41) (.extract 0 (.t 36)) <|
  .op (some 42) (.extract 1 (.t 36)) <|
  .op (some 14) (.mv (.t 41)) <|
  .op (some 15) (.mv (.t 42)) <|
  .nil
def Q10_6 : Sts := .op (some 44) (.mv (.t 7)) <|
  .op (some 45) (.call 25 [(.t 44)]) <|
  .op (some 43) (.mv (.t 45)) <|
  .op (some 46) (.extract 0 (.t 43)) <|
  .op (some 47) (.extract 1 (.t 43)) <|
  .op (some 16) (.mv (.t 46)) <|
  .op (some 17) (.mv (.t 47)) <|
  .nil
def Q10_7 : Sts := .op (some 48) (.mv (.t 8)) <|
  .op (some 49) (.bin .eql (.t 48) (.c (.int .i64 0))) <|
  .op (some 50) (.mv (.t 49)) <|
  .cnd 50 true (
  .op (some 51) (.mv (.t 10)) <|
  .op (some 52) (.bin .eql (.t 51) (.c (.int .i64 0))) <|
  .nil) 53 (.t 52) <|
  .op (some 54) (.mv (.t 53)) <|
  .cnd 54 true (
  .op (some 55) (.mv (.t 12)) <|
  .op (some 56) (.len (.t 55)) <|
  .op (some 57) (.bin .eql (.t 56) (.c (.int .i64 0))) <|
  .nil) 58 (.t 57) <|
  .op (some 59) (.mv (.t 58)) <|
  .cnd 59 true (
  .op (some 60) (.mv (.t 14)) <|
  .op (some 61) (.bin .eql (.t 60) (.c (.int .i64 0))) <|
  .nil) 62 (.t 61) <|
  .op (some 63) (.mv (.t 62)) <|
  .cnd 63 true (
  .op (some 64) (.mv (.t 16)) <|
  .op (some 65) (.len (.t 64)) <|
  .op (some 66) (.bin .eql (.t 65) (.c (.int .i64 0))) <|
  .nil) 67 (.t 66) <|
  .op (some 68) (.mv (.t 67)) <|
  .cnd 68 true (
  .op (some 69) (.mv (.t 9)) <|
  .op (some 70) (.bin .eql (.t 69) (.c (.int .i64 1))) <|
  .nil) 71 (.t 70) <|
  .op (some 72) (.mv (.t 71)) <|
  .cnd 72 true (
  .op (some 73) (.mv (.t 11)) <|
  .op (some 74) (.bin .eql (.t 73) (.c (.int .i64 1))) <|
  .nil) 75 (.t 74) <|
  .op (some 76) (.mv (.t 75)) <|
  .cnd 76 true (
  .op (some 77) (.mv (.t 13)) <|
  .op (some 78) (.bin .eql (.t 77) (.c (.int .i64 1))) <|
  .nil) 79 (.t 78) <|
  .op (some 80) (.mv (.t 79)) <|
  .cnd 80 true (
  .op (some 81) (.mv (.t 15)) <|
  .op (some 82) (.bin .eql (.t 81) (.c (.int .i64 1))) <|
  .nil) 83 (.t 82) <|
  .op (some 84) (.mv (.t 83)) <|
  .cnd 84 true (
  .op (some 85) (.mv (.t 17)) <|
  .op (some 86) (.bin .eql (.t 85) (.c (.int .i64 1))) <|
  .nil) 87 (.t 86) <|
  .op (some 88) (.mv (.t 87)) <|
  .cnd 88 true (
  .op (some 89) (.mv (.t 7)) <|
  .op (some 90) (.mv (.t 0)) <|
  .op (some 91) (.mv (.t 1)) <|
  .op (some 92) (.call 11 [(.t 89), (.t 90), (.t 91)]) <|
  .op (some 93) (.bin .eql (.t 92) (.c (.int .i64 1))) <|
  .nil) 94 (.t 93) <|
  .op (some 95) (.mv (.t 94)) <|
  .cnd 95 true (
  .op (some 96) (.mv (.t 7)) <|
  .op (some 97) (.call 26 [(.t 96)]) <|
  .nil) 98 (.t 97) <|
  .op (some 99) (.mv (.t 98)) <|
  .cnd 99 true (
  .op (some 100) (.mv (.t 7)) <|
  .op (some 101) (.call 21 [(.t 100)]) <|
  .op (some 102) (.eqp false (.t 101)) <|
  .nil) 103 (.t 102) <|
  .op (some 104) (.mv (.t 103)) <|
  .cnd 104 true (
  .op (some 105) (.call 9 []) <|
  .nil) 106 (.t 105) <|
  .op (some 6) (.mv (.t 106)) <|
  .nil
def Q10 : RFun := ⟨107, [0, 1, 2, 6, 7, 8, 9, 10, 11, 12, 13, 14, 15, 16, 17], (.seq (.reg Q10_0) (.seq (.reg Q10_1) (.seq (.reg Q10_2) (.seq (.reg Q10_3) (.seq (.reg Q10_4) (.seq (.reg Q10_5) (.seq (.reg Q10_6) (.seq (.reg Q10_7) .ret)))))))), [.tmp 6]⟩
theorem Q10_ok : compF Try.prog [0, 1, 2, 6, 7, 8, 9, 10, 11, 12, 13, 14, 15, 16, 17] [28, 33, 19, 32, 29, 30, 73] 7 = some Q10 := by kernel_rfl

/- lockless/locklesslaw05.large -/
def Q15_0 : Sts := .op (some 1) (.box 24 (.t 0)) <|
  .op (some 2) (.mv (.c (.bool false))) <|
  .nil
def Q15_1 : Sts := .op (some 5) (.faddr 0 (.t 1)) <|
  .op (some 6) (.loadS (.t 5)) <|
  .op (some 7) (.len (.t 6)) <|
  .op (some 3) (.mv (.t 7)) <|
  .nil
def Q15_2 : Sts := .op (some 4) (.mv (.c (.int .i64 0))) <|
  .nil
def Q15_3 : Sts := .op (some 8) (.mv (.t 4)) <|
  .op (some 9) (.faddr 0 (.t 1)) <|
  .op (some 10) (.loadS (.t 9)) <|
  .op (some 11) (.len (.t 10)) <|
  .op (some 12) (.bin .lss (.t 8) (.t 11)) <|
  .op (some 13) (.mv (.t 12)) <|
  .cnd 13 true (
  .op (some 14) (.mv (.t 3)) <|
  .op (some 15) (.bin .lss (.t 14) (.c (.int .i64 60))) <|
  .nil) 16 (.t 15) <|
  .nil
def Q15_4 : Sts := .op (some 19) (.mv (.t 3)) <|
  .op (some 20) (.faddr 0 (.t 1)) <|
  .op (some 21) (.loadS (.t 20)) <|
  .op (some 22) (.mv (.t 4)) <|
  .op (some 23) (.iaddrS 1 (.t 21) (.t 22)) <|
  .op (some 24) (.loadS (.t 23)) <|
  .op (some 25) (.len (.t 24)) <|
  .op (some 26) (.bin .add (.t 19) (.t 25)) <|
  .op (some 3) (.mv (.t 26)) <|
  .nil
def Q15_5 : Sts := .op (some 17) (.mv (.t 4)) <|
  .op (some 18) (.bin .add (.t 17) (.c (.int .i64 1))) <|
  .op (some 4) (.mv (.t 18)) <|
  .nil
def Q15_L6 : RCode := (.seq (.seq (.reg Q15_3) (.cond (.t 16) .skip (.exit 0))) (.seq (.block 1 (.reg Q15_4)) (.reg Q15_5)))
def Q15_6 : Sts := .op (some 27) (.mv (.t 3)) <|
  .op (some 28) (.bin .geq (.t 27) (.c (.int .i64 60))) <|
  .op (some 2) (.mv (.t 28)) <|
  .nil
def Q15 : RFun := ⟨29, [0, 1, 2, 3, 4], (.seq (.reg Q15_0) (.seq (.reg Q15_1) (.seq (.seq (.reg Q15_2) (.block 0 (.loop Q15_L6))) (.seq (.reg Q15_6) .ret)))), [.tmp 2]⟩
theorem Q15_ok : compF Try.prog [0, 1, 2, 3, 4] [28, 33, 19, 32, 29, 30, 73] 8 = some Q15 := by kernel_rfl

/- lockless/locklesslaw05.sane -/
def Q16_0 : Sts := .op (some 0) (.mv (.c (.bool false))) <|
  .nil
def Q16_1 : Sts := .op (some 6) (.build [(.int .i64 0), (.int .i64 0), (.int .i64 0), (.int .i64 0), (.int .i64 0)] [(0, 1, (.c (.int .i64 1))), (2, 1, (.c (.int .i64 1)))]) <|
  .op (some 7) (.build [(.int .i64 0), (.int .i64 0), (.int .i64 0), (.int .i64 0), (.int .i64 0)] []) <|
  .op (some 8) (.buildSl 55 2 [(.int .i64 0), (.int .i64 0), (.int .i64 0), (.int .i64 0), (.int .i64 0), (.int .i64 0), (.int .i64 0), (.int .i64 0), (.int .i64 0), (.int .i64 0)] [(0, 5, (.t 6)), (5, 5, (.t 7))]) <|
  .op (some 9) (.buildSl 53 1 [(.slice none 0 0)] [(0, 1, (.t 8))]) <|
  .op (some 10) (.build [(.slice none 0 0)] [(0, 1, (.t 9))]) <|
  .op (some 11) (.call 10 [(.t 10)]) <|
  .op (some 5) (.mv (.t 11)) <|
  .op (some 12) (.extract 0 (.t 5)) <|
  .op (some 13) (.extract 1 (.t 5)) <|
  .op (some 1) (.mv (.t 12)) <|
  .op (some 2) (.mv (.t 13)) <|
  .nil
def Q16_2 : Sts := .op (some 14) (.mv (.t 2)) <|
  .op (some 15) (.bin .neq (.t 14) (.c (.int .i64 0))) <|
  .op (some 16) (.mv (.t 15)) <|
  .cnd 16 false (
  .op (some 17) (.mv (.t 1)) <|
  .op (some 18) (.eqp false (.t 17)) <|
  .nil) 19 (.t 18) <|
  .op (some 20) (.mv (.t 19)) <|
  .cnd 20 false (
  .op (some 21) (.mv (.t 1)) <|
  .op (some 22) (.call 11 [(.t 21), (.c (.int .i64 0)), (.c (.int .i64 0))]) <|
  .op (some 23) (.bin .neq (.t 22) (.c (.int .i64 0))) <|
  .nil) 24 (.t 23) <|
  .nil
def Q16_3 : Sts := .op (some 0) (.mv (.c (.bool false))) <|
  .nil
def Q16_4 : Sts := .op (some 26) (.mv (.t 1)) <|
  .op (some 27) (.call 22 [(.t 26), (.c (.int .i64 0))]) <|
  .op (some 25) (.mv (.t 27)) <|
  .op (some 28) (.extract 0 (.t 25)) <|
  .op (some 29) (.extract 1 (.t 25)) <|
  .op (some 3) (.mv (.t 28)) <|
  .op (some 4) (.mv (.t 29)) <|
  .nil
def Q16_5 : Sts := .op (some 30) (.mv (.t 3)) <|
  .op (some 31) (.bin .eql (.t 30) (.c (.int .i64 1))) <|
  .op (some 32) (.mv (.t 31)) <|
  .cnd 32 true (
  .op (some 33) (.mv (.t 4)) <|
  .op (some 34) (.bin .eql (.t 33) (.c (.int .i64 0))) <|
  .nil) 35 (.t 34) <|
  .op (some 36) (.mv (.t 35)) <|
  .cnd 36 true (
  .op (some 37) (.mv (.t 1)) <|
  .op (some 38) (.call 11 [(.t 37), (.c (.int .i64 0)), (.c (.int .i64 0))]) <|
  .op (some 39) (.bin .eql (.t 38) (.c (.int .i64 0))) <|
  .nil) 40 (.t 39) <|
  .op (some 41) (.mv (.t 40)) <|
  .cnd 41 true (
  .op (some 42) (.mv (.t 1)) <|
  .op (some 43) (.call 26 [(.t 42)]) <|
  .nil) 44 (.t 43) <|
  .op (some 0) (.mv (.t 44)) <|
  .nil
def Q16 : RFun := ⟨45, [0, 1, 2, 3, 4], (.seq (.reg Q16_0) (.seq (.reg Q16_1) (.seq (.seq (.reg Q16_2) (.cond (.t 24) (.seq (.reg Q16_3) .ret) .skip)) (.seq (.reg Q16_4) (.seq (.reg Q16_5) .ret))))), [.tmp 0]⟩
theorem Q16_ok : compF Try.prog [0, 1, 2, 3, 4] [28, 33, 19, 32, 29, 30, 73] 9 = some Q16 := by kernel_rfl

/- lockless/view.New -/
def Q88_0 : Sts := .op (some 1) (.box 24 (.t 0)) <|
  .op (some 2) (.mv (.c (.pointer none))) <|
  .op (some 3) (.mv (.c (.int .i64 0))) <|
  .nil
def Q88_1 : Sts := .op (some 10) (.loadA 1 (.t 1)) <|
  .op (some 11) (.call 27 [(.t 10)]) <|
  .op (some 9) (.mv (.t 11)) <|
  .op (some 12) (.extract 0 (.t 9)) <|
  .op (some 13) (.extract 1 (.t 9)) <|
  .op (some 4) (.alloc 24 [(.slice none 0 0)]) <|
  .op none (.store 1 (.t 4) (.t 12)) <|
  .op (some 5) (.mv (.t 13)) <|
  .nil
def Q88_2 : Sts := .op (some 14) (.mv (.t 5)) <|
  .op (some 15) (.bin .neq (.t 14) (.c (.int .i64 0))) <|
  .nil
def Q88_3 : Sts := .op (some 16) (.mv (.t 5)) <|
  .op (some 2) (.mv (.c (.pointer none))) <|
  .op (some 3) (.mv (.t 16)) <|
  .nil
def Q88_4 : AT := .q (.op 0 (some 17) (.faddr 0 (.t 4)) <|
  .op 1 (some 18) (.loadS (.t 17)) <|
  .op 2 (some 19) (.call 28 []) <|
  .op 3 (some 20) (.build [(.slice none 0 0), (.slice none 0 0), (.slice none 0 0), (.slice none 0 0), (.slice none 0 0), (.slice none 0 0), (.int .i64 0), (.int .i64 0), (.int .i64 0)] [(0, 1, (.t 18)), (6, 3, (.t 19))]) <|
  .nil) <|
  .s 4 (some 21) (.box 65 (.t 20)) true (
  .q (.op 5 (some 6) (.mv (.t 21)) <|
  .nil) <|
  .fin) <|
  .no
def Q88_5 : Sts := .op (some 22) (.mv (.c (.int .i64 0))) <|
  .nil
def Q88_6 : Sts := .op (some 23) (.bin .lss (.t 22) (.c (.int .i64 3))) <|
  .nil
def Q88_7 : Sts := .op (some 24) (.mv (.t 22)) <|
  .op (some 7) (.mv (.t 24)) <|
  .nil
def Q88_8 : Sts := .op (some 25) (.call 28 []) <|
  .op (some 8) (.alloc 59 [(.int .i64 0), (.int .i64 0), (.int .i64 0)]) <|
  .op none (.store 3 (.t 8) (.t 25)) <|
  .nil
def Q88_9 : Sts := .op (some 26) (.mv (.t 7)) <|
  .op (some 27) (.mv (.t 7)) <|
  .op (some 28) (.iaddrA 3 1 (.t 8) (.t 26)) <|
  .op none (.store 1 (.t 28) (.t 27)) <|
  .nil
def Q88_10 : AT := .q (.op 0 (some 29) (.mv (.t 6)) <|
  .op 1 (some 30) (.mv (.t 6)) <|
  .op 2 (some 31) (.nilck (.t 30)) <|
  .op 3 (some 32) (.faddr 1 (.t 31)) <|
  .op 4 (some 33) (.loadS (.t 32)) <|
  .op 5 (some 34) (.loadA 3 (.t 8)) <|
  .op 6 (some 35) (.build [(.int .i64 0), (.int .i64 0), (.int .i64 0), (.int .i64 0), (.bool false)] [(1, 3, (.t 34))]) <|
  .nil) <|
  .s 7 (some 36) (.buildSl 67 1 [(.int .i64 0), (.int .i64 0), (.int .i64 0), (.int .i64 0), (.bool false)] [(0, 5, (.t 35))]) false (
  .q (.nil) <|
  .s 8 (some 37) (.append 67 5 40 [(.int .i64 0), (.int .i64 0), (.int .i64 0), (.int .i64 0), (.bool false)] (.t 33) (.t 36)) false (
  .q (.op 9 (some 38) (.nilck (.t 29)) <|
  .op 10 (some 39) (.faddr 1 (.t 38)) <|
  .nil) <|
  .s 11 none (.store 1 (.t 39) (.t 37)) true (
  .q (.nil) <|
  .fin) <|
  .no) <|
  .no) <|
  .no
def Q88_11 : Sts := .op (some 40) (.mv (.t 6)) <|
  .op (some 41) (.mv (.t 7)) <|
  .op (some 42) (.mv (.t 7)) <|
  .op (some 43) (.buildSl 3 1 [(.int .i64 0)] [(0, 1, (.t 42))]) <|
  .op (some 44) (.nilck (.t 40)) <|
  .op (some 45) (.faddr 2 (.t 44)) <|
  .op (some 46) (.iaddrA 3 1 (.t 45) (.t 41)) <|
  .op none (.store 1 (.t 46) (.t 43)) <|
  .nil
def Q88_12 : Sts := .op (some 47) (.bin .add (.t 22) (.c (.int .i64 1))) <|
  .op (some 22) (.mv (.t 47)) <|
  .nil
def Q88_L13 : RCode := (.seq (.reg Q88_6) (.seq (.cond (.t 23) .skip (.exit 0)) (.seq (.block 1 (.seq (.reg Q88_7) (.seq (.reg Q88_8) (.seq (.reg Q88_9) (.seq (.any Q88_10) (.reg Q88_11)))))) (.reg Q88_12))))
def Q88_13 : Sts := .op (some 48) (.faddr 0 (.t 4)) <|
  .op (some 49) (.loadS (.t 48)) <|
  .op (some 50) (.len (.t 49)) <|
  .op (some 51) (.mv (.c (.int .i64 0))) <|
  .nil
def Q88_14 : Sts := .op (some 52) (.bin .lss (.t 51) (.t 50)) <|
  .nil
def Q88_15 : AT := .q (.op 0 (some 53) (.mv (.t 6)) <|
  .op 1 (some 54) (.mv (.t 6)) <|
  .op 2 (some 55) (.nilck (.t 54)) <|
  .op 3 (some 56) (.faddr 5 (.t 55)) <|
  .op 4 (some 57) (.loadS (.t 56)) <|
  .op 5 (some 58) (.call 28 []) <|
  .op 6 (some 59) (.call 28 []) <|
  .op 7 (some 60) (.call 28 []) <|
  .op 8 (some 61) (.build [(.int .i64 0), (.int .i64 0), (.int .i64 0), (.int .i64 0), (.int .i64 0), (.int .i64 0), (.int .i64 0), (.int .i64 0), (.int .i64 0), (.slice none 0 0), (.int .i64 0)] [(0, 3, (.t 58)), (3, 3, (.t 59)), (6, 3, (.t 60))]) <|
  .nil) <|
  .s 9 (some 62) (.buildSl 69 1 [(.int .i64 0), (.int .i64 0), (.int .i64 0), (.int .i64 0), (.int .i64 0), (.int .i64 0), (.int .i64 0), (.int .i64 0), (.int .i64 0), (.slice none 0 0), (.int .i64 0)] [(0, 11, (.t 61))]) false (
  .q (.nil) <|
  .s 10 (some 63) (.append 69 11 104 [(.int .i64 0), (.int .i64 0), (.int .i64 0), (.int .i64 0), (.int .i64 0), (.int .i64 0), (.int .i64 0), (.int .i64 0), (.int .i64 0), (.slice none 0 0), (.int .i64 0)] (.t 57) (.t 62)) false (
  .q (.op 11 (some 64) (.nilck (.t 53)) <|
  .op 12 (some 65) (.faddr 5 (.t 64)) <|
  .nil) <|
  .s 13 none (.store 1 (.t 65) (.t 63)) true (
  .q (.nil) <|
  .fin) <|
  .no) <|
  .no) <|
  .no
def Q88_16 : Sts := .op (some 66) (.bin .add (.t 51) (.c (.int .i64 1))) <|
  .op (some 51) (.mv (.t 66)) <|
  .nil
def Q88_L17 : RCode := (.seq (.reg Q88_14) (.seq (.cond (.t 52) .skip (.exit 2)) (.seq (.block 3 (.any Q88_15)) (.reg Q88_16))))
def Q88_17 : Sts := .op (some 67) (.mv (.t 6)) <|
  .op (some 2) (.mv (.t 67)) <|
  .op (some 3) (.mv (.c (.int .i64 0))) <|
  .nil
def Q88 : RFun := ⟨68, [0, 1, 2, 3, 4, 5, 6, 7, 8, 22, 50, 51], (.seq (.reg Q88_0) (.seq (.reg Q88_1) (.seq (.seq (.reg Q88_2) (.cond (.t 15) (.seq (.reg Q88_3) .ret) .skip)) (.seq (.any Q88_4) (.seq (.seq (.reg Q88_5) (.block 0 (.loop Q88_L13))) (.seq (.seq (.reg Q88_13) (.block 2 (.loop Q88_L17))) (.seq (.reg Q88_17) .ret))))))), [.tmp 2, .tmp 3]⟩
theorem Q88_ok : compF Try.prog [0, 1, 2, 3, 4, 5, 6, 7, 8, 22, 50, 51] [28, 33, 19, 32, 29, 30, 73] 10 = some Q88 := by kernel_rfl

/- (*lockless/view.Machine).Step -/
def Q74_0 : Sts := .op (some 6) (.mv (.c (.int .i64 0))) <|
  .nil
def Q74_1 : Sts := .op (some 11) (.mv (.t 0)) <|
  .op (some 12) (.mv (.t 1)) <|
  .op (some 13) (.call 29 [(.t 11), (.t 12)]) <|
  .op (some 10) (.mv (.t 13)) <|
  .op (some 14) (.extract 0 (.t 10)) <|
  .op (some 15) (.extract 1 (.t 10)) <|
  .op (some 7) (.alloc 55 [(.int .i64 0), (.int .i64 0), (.int .i64 0), (.int .i64 0), (.int .i64 0)]) <|
  .op none (.store 5 (.t 7) (.t 14)) <|
  .op (some 8) (.mv (.t 15)) <|
  .nil
def Q74_2 : Sts := .op (some 16) (.mv (.t 8)) <|
  .op (some 17) (.bin .neq (.t 16) (.c (.int .i64 0))) <|
  .nil
def Q74_3 : Sts := .op (some 18) (.mv (.t 8)) <|
  .op (some 6) (.mv (.t 18)) <|
  .nil
def Q74_4 : Sts := .op (some 19) (.mv (.t 0)) <|
  .op (some 20) (.mv (.t 1)) <|
  .op (some 21) (.loadA 5 (.t 7)) <|
  .op (some 22) (.call 30 [(.t 19), (.t 20), (.t 21)]) <|
  .op (some 9) (.mv (.t 22)) <|
  .nil
def Q74_5 : Sts := .op (some 23) (.mv (.t 2)) <|
  .op (some 24) (.bin .lss (.t 23) (.c (.int .i64 0))) <|
  .op (some 25) (.mv (.t 24)) <|
  .cnd 25 false (
  .op (some 26) (.mv (.t 2)) <|
  .op (some 27) (.mv (.t 9)) <|
  .op (some 28) (.len (.t 27)) <|
  .op (some 29) (.bin .geq (.t 26) (.t 28)) <|
  .nil) 30 (.t 29) <|
  .nil
def Q74_6 : Sts := .op (some 6) (.mv (.c (.int .i64 3))) <|
  .nil
def Q74_7 : AT := .q (.op 0 (some 31) (.mv (.t 0)) <|
  .op 1 (some 32) (.mv (.t 1)) <|
  .op 2 (some 33) (.loadA 5 (.t 7)) <|
  .op 3 (some 34) (.mv (.t 9)) <|
  .op 4 (some 35) (.mv (.t 2)) <|
  .op 5 (some 36) (.iaddrS 2 (.t 34) (.t 35)) <|
  .op 6 (some 37) (.loadA 2 (.t 36)) <|
  .nil) <|
  .s 7 (some 38) (.call 31 [(.t 31), (.t 32), (.t 33), (.t 37)]) true (
  .q (.nil) <|
  .fin) <|
  .no
def Q74_8 : Sts := .op (some 6) (.mv (.c (.int .i64 0))) <|
  .nil
def Q74 : RFun := ⟨39, [0, 1, 2, 6, 7, 8, 9], (.seq (.reg Q74_0) (.seq (.reg Q74_1) (.seq (.seq (.reg Q74_2) (.cond (.t 17) (.seq (.reg Q74_3) .ret) .skip)) (.seq (.reg Q74_4) (.seq (.seq (.reg Q74_5) (.cond (.t 30) (.seq (.reg Q74_6) .ret) .skip)) (.seq (.any Q74_7) (.seq (.reg Q74_8) .ret))))))), [.tmp 6]⟩
theorem Q74_ok : compF Try.prog [0, 1, 2, 6, 7, 8, 9] [28, 33, 19, 32, 29, 30, 73] 11 = some Q74 := by kernel_rfl

/- (*lockless/view.Machine).Reach -/
def Q73_0 : Sts := .op (some 6) (.mv (.c (.int .i64 0))) <|
  .op (some 7) (.mv (.c (.int .i64 0))) <|
  .nil
def Q73_1 : Sts := .op (some 8) (.mv (.t 0)) <|
  .op (some 9) (.call 32 [(.t 8)]) <|
  .op (some 10) (.notb (.t 9)) <|
  .op (some 11) (.mv (.t 10)) <|
  .cnd 11 false (
  .op (some 12) (.mv (.t 1)) <|
  .op (some 13) (.bin .lss (.t 12) (.c (.int .i64 0))) <|
  .nil) 14 (.t 13) <|
  .op (some 15) (.mv (.t 14)) <|
  .cnd 15 false (
  .op (some 16) (.mv (.t 1)) <|
  .op (some 17) (.mv (.t 0)) <|
  .op (some 18) (.nilck (.t 17)) <|
  .op (some 19) (.faddr 5 (.t 18)) <|
  .op (some 20) (.loadS (.t 19)) <|
  .op (some 21) (.len (.t 20)) <|
  .op (some 22) (.bin .geq (.t 16) (.t 21)) <|
  .nil) 23 (.t 22) <|
  .op (some 24) (.mv (.t 23)) <|
  .cnd 24 false (
  .op (some 25) (.mv (.t 2)) <|
  .op (some 26) (.bin .lss (.t 25) (.c (.int .i64 0))) <|
  .nil) 27 (.t 26) <|
  .op (some 28) (.mv (.t 27)) <|
  .cnd 28 false (
  .op (some 29) (.mv (.t 2)) <|
  .op (some 30) (.bin .geq (.t 29) (.c (.int .i64 3))) <|
  .nil) 31 (.t 30) <|
  .nil
def Q73_2 : Sts := .op (some 6) (.mv (.c (.int .i64 0))) <|
  .op (some 7) (.mv (.c (.int .i64 1))) <|
  .nil
def Q73_3 : Sts := .op (some 32) (.mv (.t 0)) <|
  .op (some 33) (.mv (.t 2)) <|
  .op (some 34) (.mv (.t 0)) <|
  .op (some 35) (.nilck (.t 34)) <|
  .op (some 36) (.faddr 5 (.t 35)) <|
  .op (some 37) (.loadS (.t 36)) <|
  .op (some 38) (.mv (.t 1)) <|
  .op (some 39) (.mv (.t 2)) <|
  .op (some 40) (.iaddrS 11 (.t 37) (.t 38)) <|
  .op (some 41) (.faddr 0 (.t 40)) <|
  .op (some 42) (.iaddrA 3 1 (.t 41) (.t 39)) <|
  .op (some 43) (.loadI .i64 (.t 42)) <|
  .op (some 44) (.call 33 [(.t 32), (.t 33), (.t 43)]) <|
  .op (some 6) (.mv (.t 44)) <|
  .op (some 7) (.mv (.c (.int .i64 0))) <|
  .nil
def Q73 : RFun := ⟨45, [0, 1, 2, 6, 7], (.seq (.reg Q73_0) (.seq (.seq (.reg Q73_1) (.cond (.t 31) (.seq (.reg Q73_2) .ret) .skip)) (.seq (.reg Q73_3) .ret))), [.tmp 6, .tmp 7]⟩
theorem Q73_ok : compF Try.prog [0, 1, 2, 6, 7] [28, 33, 19, 32, 29, 30, 73] 12 = some Q73 := by kernel_rfl

/- lockless/locklessref03.Own -/
def Q22_0 : Sts := .op (some 1) (.box 24 (.t 0)) <|
  .op (some 2) (.alloc 24 [(.slice none 0 0)]) <|
  .nil
def Q22_1 : Sts := .op (some 3) (.alloc 24 [(.slice none 0 0)]) <|
  .nil
def Q22_2 : Sts := .op (some 4) (.mv (.c (.int .i64 0))) <|
  .nil
def Q22_3 : Sts := .op (some 5) (.mv (.t 4)) <|
  .op (some 6) (.faddr 0 (.t 1)) <|
  .op (some 7) (.loadS (.t 6)) <|
  .op (some 8) (.len (.t 7)) <|
  .op (some 9) (.bin .lss (.t 5) (.t 8)) <|
  .nil
def Q22_4 : AT := .q (.op 0 (some 12) (.faddr 0 (.t 3)) <|
  .op 1 (some 13) (.loadS (.t 12)) <|
  .op 3 (some 15) (.faddr 0 (.t 1)) <|
  .op 4 (some 16) (.loadS (.t 15)) <|
  .op 5 (some 17) (.mv (.t 4)) <|
  .op 6 (some 18) (.iaddrS 1 (.t 16) (.t 17)) <|
  .op 7 (some 19) (.loadS (.t 18)) <|
  .nil) <|
  .s 2 (some 14) (.buildSl 55 0 [] []) false (
  .q (.nil) <|
  .s 8 (some 20) (.append 55 5 40 [(.int .i64 0), (.int .i64 0), (.int .i64 0), (.int .i64 0), (.int .i64 0)] (.t 14) (.t 19)) false (
  .q (.nil) <|
  .s 9 (some 21) (.buildSl 53 1 [(.slice none 0 0)] [(0, 1, (.t 20))]) false (
  .q (.nil) <|
  .s 10 (some 22) (.append 53 1 24 [(.slice none 0 0)] (.t 13) (.t 21)) true (
  .q (.op 11 (some 23) (.faddr 0 (.t 3)) <|
  .nil) <|
  .s 12 none (.store 1 (.t 23) (.t 22)) true (
  .q (.nil) <|
  .fin) <|
  .no) <|
  .no) <|
  .no) <|
  .no) <|
  .no
def Q22_5 : Sts := .op (some 10) (.mv (.t 4)) <|
  .op (some 11) (.bin .add (.t 10) (.c (.int .i64 1))) <|
  .op (some 4) (.mv (.t 11)) <|
  .nil
def Q22_L6 : RCode := (.seq (.seq (.reg Q22_3) (.cond (.t 9) .skip (.exit 0))) (.seq (.block 1 (.any Q22_4)) (.reg Q22_5)))
def Q22_6 : Sts := .op (some 24) (.loadA 1 (.t 3)) <|
  .op none (.store 1 (.t 2) (.t 24)) <|
  .nil
def Q22 : RFun := ⟨25, [0, 1, 2, 3, 4], (.seq (.reg Q22_0) (.seq (.reg Q22_1) (.seq (.seq (.reg Q22_2) (.block 0 (.loop Q22_L6))) (.seq (.reg Q22_6) .ret)))), [.cellA 2 1]⟩
theorem Q22_ok : compF Try.prog [0, 1, 2, 3, 4] [28, 33, 19, 32, 29, 30, 73] 13 = some Q22 := by kernel_rfl

/- lockless/view.Play -/
def Q89_0 : Sts := .op (some 2) (.box 24 (.t 0)) <|
  .op (some 4) (.mv (.c (.slice none 0 0))) <|
  .op (some 5) (.mv (.c (.int .i64 0))) <|
  .nil
def Q89_1 : Sts := .op (some 13) (.loadA 1 (.t 2)) <|
  .op (some 14) (.call 10 [(.t 13)]) <|
  .op (some 12) (.mv (.t 14)) <|
  .op (some 15) (.extract 0 (.t 12)) <|
  .op (some 16) (.extract 1 (.t 12)) <|
  .op (some 6) (.alloc 28 [(.pointer none)]) <|
  .op none (.store 1 (.t 6) (.t 15)) <|
  .op (some 7) (.mv (.t 16)) <|
  .nil
def Q89_2 : Sts := .op (some 17) (.mv (.t 7)) <|
  .op (some 18) (.bin .neq (.t 17) (.c (.int .i64 0))) <|
  .nil
def Q89_3 : Sts := .op (some 19) (.mv (.t 7)) <|
  .op (some 4) (.mv (.c (.slice none 0 0))) <|
  .op (some 5) (.mv (.t 19)) <|
  .nil
def Q89_4 : Sts := .op (some 20) (.mv (.t 1)) <|
  .op (some 21) (.len (.t 20)) <|
  .op (some 22) (.bin .gtr (.t 21) (.c (.int .i64 100))) <|
  .nil
def Q89_5 : Sts := .op (some 4) (.mv (.c (.slice none 0 0))) <|
  .op (some 5) (.mv (.c (.int .i64 1))) <|
  .nil
def Q89_6 : Sts := .op (some 23) (.mkfn 34 [] [(.t 6)]) <|
  .op (some 8) (.mv (.t 23)) <|
  .nil
def Q89_7 : Sts := .op (some 24) (.mv (.t 1)) <|
  .op (some 25) (.len (.t 24)) <|
  .op (some 26) (.mv (.c (.int .i64 0))) <|
  .nil
def Q89_8 : Sts := .op (some 27) (.bin .lss (.t 26) (.t 25)) <|
  .nil
def Q89_9 : Sts := .op (some 28) (.iaddrS 2 (.t 24) (.t 26)) <|
  .op (some 29) (.loadA 2 (.t 28)) <|
  .op (some 10) (.alloc 34 [(.int .i64 0), (.int .i64 0)]) <|
  .op none (.store 2 (.t 10) (.t 29)) <|
  .nil
def Q89_10 : Sts := .op (some 30) (.mv (.t 8)) <|
  .op (some 31) (.iaddrA 2 1 (.t 10) (.c (.int .i64 0))) <|
  .op (some 32) (.loadI .i64 (.t 31)) <|
  .op (some 33) (.mkfn 35 [] [(.t 10)]) <|
  .op (some 34) (.callv (.t 30) [(.t 32), (.t 33)]) <|
  .nil
def Q89_11 : Sts := .op (some 35) (.bin .add (.t 26) (.c (.int .i64 1))) <|
  .op (some 26) (.mv (.t 35)) <|
  .nil
def Q89_L12 : RCode := (.seq (.reg Q89_8) (.seq (.cond (.t 27) .skip (.exit 0)) (.seq (.block 1 (.seq (.reg Q89_9) (.reg Q89_10))) (.reg Q89_11))))
def Q89_12 : Sts := .op (some 36) (.loadX (.t 6)) <|
  .op (some 37) (.nilck (.t 36)) <|
  .op (some 38) (.faddr 5 (.t 37)) <|
  .op (some 39) (.loadS (.t 38)) <|
  .op (some 40) (.len (.t 39)) <|
  .op (some 41) (.mv (.c (.int .i64 0))) <|
  .nil
def Q89_13 : Sts := .op (some 42) (.bin .lss (.t 41) (.t 40)) <|
  .nil
def Q89_14 : Sts := .op (some 43) (.mv (.t 41)) <|
  .op (some 11) (.mv (.t 43)) <|
  .nil
def Q89_15 : Sts := .op (some 44) (.loadX (.t 6)) <|
  .op (some 45) (.call 36 [(.t 44)]) <|
  .op (some 46) (.mv (.t 11)) <|
  .op (some 47) (.iaddrS 1 (.t 45) (.t 46)) <|
  .op (some 48) (.loadI .i64 (.t 47)) <|
  .op (some 49) (.mv (.c (.int .i64 0))) <|
  .nil
def Q89_16 : Sts := .op (some 50) (.bin .lss (.t 49) (.t 48)) <|
  .nil
def Q89_17 : Sts := .op (some 51) (.mv (.t 8)) <|
  .op (some 52) (.mv (.t 11)) <|
  .op (some 53) (.callv (.t 51) [(.t 52), (.c (.func (.func 37) #[] #[]))]) <|
  .nil
def Q89_18 : Sts := .op (some 54) (.bin .add (.t 49) (.c (.int .i64 1))) <|
  .op (some 49) (.mv (.t 54)) <|
  .nil
def Q89_L19 : RCode := (.seq (.reg Q89_16) (.seq (.cond (.t 50) .skip (.exit 4)) (.seq (.block 5 (.reg Q89_17)) (.reg Q89_18))))
def Q89_19 : Sts := .op (some 55) (.bin .add (.t 41) (.c (.int .i64 1))) <|
  .op (some 41) (.mv (.t 55)) <|
  .nil
def Q89_L20 : RCode := (.seq (.reg Q89_13) (.seq (.cond (.t 42) .skip (.exit 2)) (.seq (.block 3 (.seq (.reg Q89_14) (.seq (.reg Q89_15) (.block 4 (.loop Q89_L19))))) (.reg Q89_19))))
def Q89_20 : Sts := .op (some 56) (.loadX (.t 6)) <|
  .op (some 57) (.call 38 [(.t 56)]) <|
  .op (some 4) (.mv (.t 57)) <|
  .op (some 5) (.mv (.c (.int .i64 0))) <|
  .nil
def Q89 : RFun := ⟨58, [0, 1, 2, 4, 5, 6, 7, 8, 10, 11, 24, 25, 26, 40, 41, 48, 49], (.seq (.reg Q89_0) (.seq (.reg Q89_1) (.seq (.seq (.reg Q89_2) (.cond (.t 18) (.seq (.reg Q89_3) .ret) .skip)) (.seq (.seq (.reg Q89_4) (.cond (.t 22) (.seq (.reg Q89_5) .ret) .skip)) (.seq (.reg Q89_6) (.seq (.seq (.reg Q89_7) (.block 0 (.loop Q89_L12))) (.seq (.seq (.reg Q89_12) (.block 2 (.loop Q89_L20))) (.seq (.reg Q89_20) .ret)))))))), [.tmp 4, .tmp 5]⟩
theorem Q89_ok : compF Try.prog [0, 1, 2, 4, 5, 6, 7, 8, 10, 11, 24, 25, 26, 40, 41, 48, 49] [28, 33, 19, 32, 29, 30, 73] 14 = some Q89 := by kernel_rfl

/- lockless/locklessref05.Play -/
def Q44_0 : Sts := .op (some 2) (.box 24 (.t 0)) <|
  .op (some 4) (.mv (.c (.slice none 0 0))) <|
  .op (some 5) (.mv (.c (.int .i64 0))) <|
  .nil
def Q44_1 : Sts := .op (some 15) (.loadA 1 (.t 2)) <|
  .op (some 16) (.call 18 [(.t 15)]) <|
  .op (some 14) (.mv (.t 16)) <|
  .op (some 17) (.extract 0 (.t 14)) <|
  .op (some 18) (.extract 1 (.t 14)) <|
  .op (some 6) (.mv (.t 17)) <|
  .op (some 7) (.mv (.t 18)) <|
  .nil
def Q44_2 : Sts := .op (some 19) (.mv (.t 7)) <|
  .op (some 20) (.bin .neq (.t 19) (.c (.int .i64 0))) <|
  .nil
def Q44_3 : Sts := .op (some 21) (.mv (.t 7)) <|
  .op (some 4) (.mv (.c (.slice none 0 0))) <|
  .op (some 5) (.mv (.t 21)) <|
  .nil
def Q44_4 : Sts := .op (some 22) (.mv (.t 1)) <|
  .op (some 23) (.len (.t 22)) <|
  .op (some 24) (.bin .gtr (.t 23) (.c (.int .i64 100))) <|
  .nil
def Q44_5 : Sts := .op (some 4) (.mv (.c (.slice none 0 0))) <|
  .op (some 5) (.mv (.c (.int .i64 1))) <|
  .nil
def Q44_6 : Sts := .op (some 8) (.mv (.c (.int .i64 0))) <|
  .nil
def Q44_7 : Sts := .op (some 25) (.mv (.t 8)) <|
  .op (some 26) (.mv (.t 1)) <|
  .op (some 27) (.len (.t 26)) <|
  .op (some 28) (.bin .lss (.t 25) (.t 27)) <|
  .nil
def Q44_8 : Sts := .op (some 32) (.mv (.t 6)) <|
  .op (some 33) (.mv (.t 1)) <|
  .op (some 34) (.mv (.t 8)) <|
  .op (some 35) (.iaddrS 2 (.t 33) (.t 34)) <|
  .op (some 36) (.iaddrA 2 1 (.t 35) (.c (.int .i64 0))) <|
  .op (some 37) (.loadI .i64 (.t 36)) <|
  .op (some 38) (.call 39 [(.t 32), (.t 37)]) <|
  .op (some 31) (.mv (.t 38)) <|
  .op (some 39) (.extract 0 (.t 31)) <|
  .op (some 40) (.extract 1 (.t 31)) <|
  .op (some 9) (.mv (.t 39)) <|
  .op (some 10) (.mv (.t 40)) <|
  .nil
def Q44_9 : Sts := .op (some 41) (.mv (.t 10)) <|
  .op (some 42) (.bin .eql (.t 41) (.c (.int .i64 0))) <|
  .nil
def Q44_10 : AT := .q (.op 0 (some 43) (.mv (.t 6)) <|
  .op 1 (some 44) (.mv (.t 1)) <|
  .op 2 (some 45) (.mv (.t 8)) <|
  .op 3 (some 46) (.iaddrS 2 (.t 44) (.t 45)) <|
  .op 4 (some 47) (.iaddrA 2 1 (.t 46) (.c (.int .i64 0))) <|
  .op 5 (some 48) (.loadI .i64 (.t 47)) <|
  .op 6 (some 49) (.mv (.t 1)) <|
  .op 7 (some 50) (.mv (.t 8)) <|
  .op 8 (some 51) (.iaddrS 2 (.t 49) (.t 50)) <|
  .op 9 (some 52) (.iaddrA 2 1 (.t 51) (.c (.int .i64 1))) <|
  .op 10 (some 53) (.loadI .i64 (.t 52)) <|
  .op 11 (some 54) (.mv (.t 9)) <|
  .nil) <|
  .s 12 (some 55) (.call 40 [(.t 53), (.t 54)]) false (
  .q (.nil) <|
  .s 13 (some 56) (.call 20 [(.t 43), (.t 48), (.t 55)]) true (
  .q (.nil) <|
  .fin) <|
  .no) <|
  .no
def Q44_11 : Sts := .op (some 29) (.mv (.t 8)) <|
  .op (some 30) (.bin .add (.t 29) (.c (.int .i64 1))) <|
  .op (some 8) (.mv (.t 30)) <|
  .nil
def Q44_L12 : RCode := (.seq (.seq (.reg Q44_7) (.cond (.t 28) .skip (.exit 0))) (.seq (.block 1 (.seq (.reg Q44_8) (.seq (.reg Q44_9) (.cond (.t 42) (.any Q44_10) .skip)))) (.reg Q44_11)))
def Q44_12 : Sts := .op (some 11) (.mv (.c (.int .i64 0))) <|
  .nil
def Q44_13 : Sts := .op (some 57) (.mv (.t 11)) <|
  .op (some 58) (.mv (.t 6)) <|
  .op (some 59) (.nilck (.t 58)) <|
  .op (some 60) (.faddr 1 (.t 59)) <|
  .op (some 61) (.loadS (.t 60)) <|
  .op (some 62) (.len (.t 61)) <|
  .op (some 63) (.bin .lss (.t 57) (.t 62)) <|
  .nil
def Q44_14 : AT := .q (.op 0 (some 66) (.mv (.t 6)) <|
  .op 1 (some 67) (.nilck (.t 66)) <|
  .op 2 (some 68) (.faddr 1 (.t 67)) <|
  .op 3 (some 69) (.loadS (.t 68)) <|
  .op 4 (some 70) (.mv (.t 11)) <|
  .op 5 (some 71) (.iaddrS 1 (.t 69) (.t 70)) <|
  .op 6 (some 72) (.loadI .i64 (.t 71)) <|
  .op 7 (some 73) (.mv (.t 6)) <|
  .op 8 (some 74) (.nilck (.t 73)) <|
  .op 9 (some 75) (.faddr 0 (.t 74)) <|
  .op 10 (some 76) (.faddr 0 (.t 75)) <|
  .op 11 (some 77) (.loadS (.t 76)) <|
  .op 12 (some 78) (.mv (.t 11)) <|
  .op 13 (some 79) (.iaddrS 1 (.t 77) (.t 78)) <|
  .op 14 (some 80) (.loadS (.t 79)) <|
  .op 15 (some 81) (.len (.t 80)) <|
  .op 16 (some 82) (.bin .lss (.t 72) (.t 81)) <|
  .nil) <|
  .fin
def Q44_15 : Sts := .op (some 84) (.mv (.t 6)) <|
  .op (some 85) (.mv (.t 11)) <|
  .op (some 86) (.call 39 [(.t 84), (.t 85)]) <|
  .op (some 83) (.mv (.t 86)) <|
  .op (some 87) (.extract 0 (.t 83)) <|
  .op (some 88) (.extract 1 (.t 83)) <|
  .op (some 12) (.mv (.t 87)) <|
  .op (some 13) (.mv (.t 88)) <|
  .nil
def Q44_16 : Sts := .op (some 89) (.mv (.t 6)) <|
  .op (some 90) (.mv (.t 11)) <|
  .op (some 91) (.mv (.t 12)) <|
  .op (some 92) (.bin .sub (.t 91) (.c (.int .i64 1))) <|
  .op (some 93) (.call 20 [(.t 89), (.t 90), (.t 92)]) <|
  .nil
def Q44_L17 : RCode := (.seq (.seq (.any Q44_14) (.cond (.t 82) .skip (.exit 4))) (.block 5 (.seq (.reg Q44_15) (.reg Q44_16))))
def Q44_17 : Sts := .op (some 64) (.mv (.t 11)) <|
  .op (some 65) (.bin .add (.t 64) (.c (.int .i64 1))) <|
  .op (some 11) (.mv (.t 65)) <|
  .nil
def Q44_L18 : RCode := (.seq (.seq (.reg Q44_13) (.cond (.t 63) .skip (.exit 2))) (.seq (.block 3 (.block 4 (.loop Q44_L17))) (.reg Q44_17)))
def Q44_18 : Sts := .op (some 94) (.mv (.t 6)) <|
  .op (some 95) (.call 41 [(.t 94)]) <|
  .op (some 96) (.extract 0 (.t 95)) <|
  .op (some 97) (.extract 1 (.t 95)) <|
  .op (some 4) (.mv (.t 96)) <|
  .op (some 5) (.mv (.t 97)) <|
  .nil
def Q44 : RFun := ⟨98, [0, 1, 2, 4, 5, 6, 7, 8, 9, 10, 11, 12], (.seq (.reg Q44_0) (.seq (.reg Q44_1) (.seq (.seq (.reg Q44_2) (.cond (.t 20) (.seq (.reg Q44_3) .ret) .skip)) (.seq (.seq (.reg Q44_4) (.cond (.t 24) (.seq (.reg Q44_5) .ret) .skip)) (.seq (.seq (.reg Q44_6) (.block 0 (.loop Q44_L12))) (.seq (.seq (.reg Q44_12) (.block 2 (.loop Q44_L18))) (.seq (.reg Q44_18) .ret))))))), [.tmp 4, .tmp 5]⟩
theorem Q44_ok : compF Try.prog [0, 1, 2, 4, 5, 6, 7, 8, 9, 10, 11, 12] [28, 33, 19, 32, 29, 30, 73] 15 = some Q44 := by kernel_rfl

/- lockless/locklessref01.Ints -/
def Q18_0 : Sts := .op (some 4) (.mv (.c (.bool false))) <|
  .nil
def Q18_1 : Sts := .op (some 6) (.mv (.t 0)) <|
  .op (some 7) (.len (.t 6)) <|
  .op (some 8) (.mv (.t 1)) <|
  .op (some 9) (.len (.t 8)) <|
  .op (some 10) (.bin .neq (.t 7) (.t 9)) <|
  .nil
def Q18_2 : Sts := .op (some 4) (.mv (.c (.bool false))) <|
  .nil
def Q18_3 : Sts := .op (some 5) (.mv (.c (.int .i64 0))) <|
  .nil
def Q18_4 : Sts := .op (some 11) (.mv (.t 5)) <|
  .op (some 12) (.mv (.t 0)) <|
  .op (some 13) (.len (.t 12)) <|
  .op (some 14) (.bin .lss (.t 11) (.t 13)) <|
  .nil
def Q18_5 : AT := .q (.op 0 (some 17) (.mv (.t 0)) <|
  .op 1 (some 18) (.mv (.t 5)) <|
  .op 2 (some 19) (.iaddrS 1 (.t 17) (.t 18)) <|
  .op 3 (some 20) (.loadI .i64 (.t 19)) <|
  .op 4 (some 21) (.mv (.t 1)) <|
  .op 5 (some 22) (.mv (.t 5)) <|
  .op 6 (some 23) (.iaddrS 1 (.t 21) (.t 22)) <|
  .op 7 (some 24) (.loadI .i64 (.t 23)) <|
  .op 8 (some 25) (.bin .neq (.t 20) (.t 24)) <|
  .nil) <|
  .fin
def Q18_6 : Sts := .op (some 4) (.mv (.c (.bool false))) <|
  .nil
def Q18_7 : Sts := .op (some 15) (.mv (.t 5)) <|
  .op (some 16) (.bin .add (.t 15) (.c (.int .i64 1))) <|
  .op (some 5) (.mv (.t 16)) <|
  .nil
def Q18_L8 : RCode := (.seq (.seq (.reg Q18_4) (.cond (.t 14) .skip (.exit 0))) (.seq (.block 1 (.seq (.any Q18_5) (.cond (.t 25) (.seq (.reg Q18_6) .ret) .skip))) (.reg Q18_7)))
def Q18_8 : Sts := .op (some 4) (.mv (.c (.bool true))) <|
  .nil
def Q18 : RFun := ⟨26, [0, 1, 4, 5], (.seq (.reg Q18_0) (.seq (.seq (.reg Q18_1) (.cond (.t 10) (.seq (.reg Q18_2) .ret) .skip)) (.seq (.seq (.reg Q18_3) (.block 0 (.loop Q18_L8))) (.seq (.reg Q18_8) .ret)))), [.tmp 4]⟩
theorem Q18_ok : compF Try.prog [0, 1, 4, 5] [28, 33, 19, 32, 29, 30, 73] 16 = some Q18 := by kernel_rfl

/- lockless/locklessref03.Same -/
def Q23_0 : Sts := .op (some 2) (.box 24 (.t 0)) <|
  .op (some 3) (.box 24 (.t 1)) <|
  .op (some 4) (.mv (.c (.bool false))) <|
  .nil
def Q23_1 : Sts := .op (some 7) (.faddr 0 (.t 2)) <|
  .op (some 8) (.loadS (.t 7)) <|
  .op (some 9) (.len (.t 8)) <|
  .op (some 10) (.faddr 0 (.t 3)) <|
  .op (some 11) (.loadS (.t 10)) <|
  .op (some 12) (.len (.t 11)) <|
  .op (some 13) (.bin .neq (.t 9) (.t 12)) <|
  .nil
def Q23_2 : Sts := .op (some 4) (.mv (.c (.bool false))) <|
  .nil
def Q23_3 : Sts := .op (some 5) (.mv (.c (.int .i64 0))) <|
  .nil
def Q23_4 : Sts := .op (some 14) (.mv (.t 5)) <|
  .op (some 15) (.faddr 0 (.t 2)) <|
  .op (some 16) (.loadS (.t 15)) <|
  .op (some 17) (.len (.t 16)) <|
  .op (some 18) (.bin .lss (.t 14) (.t 17)) <|
  .nil
def Q23_5 : AT := .q (.op 0 (some 21) (.faddr 0 (.t 2)) <|
  .op 1 (some 22) (.loadS (.t 21)) <|
  .op 2 (some 23) (.mv (.t 5)) <|
  .op 3 (some 24) (.iaddrS 1 (.t 22) (.t 23)) <|
  .op 4 (some 25) (.loadS (.t 24)) <|
  .op 5 (some 26) (.len (.t 25)) <|
  .op 6 (some 27) (.faddr 0 (.t 3)) <|
  .op 7 (some 28) (.loadS (.t 27)) <|
  .op 8 (some 29) (.mv (.t 5)) <|
  .op 9 (some 30) (.iaddrS 1 (.t 28) (.t 29)) <|
  .op 10 (some 31) (.loadS (.t 30)) <|
  .op 11 (some 32) (.len (.t 31)) <|
  .op 12 (some 33) (.bin .neq (.t 26) (.t 32)) <|
  .nil) <|
  .fin
def Q23_6 : Sts := .op (some 4) (.mv (.c (.bool false))) <|
  .nil
def Q23_7 : Sts := .op (some 6) (.mv (.c (.int .i64 0))) <|
  .nil
def Q23_8 : Sts := .op (some 34) (.mv (.t 6)) <|
  .op (some 35) (.faddr 0 (.t 2)) <|
  .op (some 36) (.loadS (.t 35)) <|
  .op (some 37) (.mv (.t 5)) <|
  .op (some 38) (.iaddrS 1 (.t 36) (.t 37)) <|
  .op (some 39) (.loadS (.t 38)) <|
  .op (some 40) (.len (.t 39)) <|
  .op (some 41) (.bin .lss (.t 34) (.t 40)) <|
  .nil
def Q23_9 : AT := .q (.op 0 (some 44) (.faddr 0 (.t 2)) <|
  .op 1 (some 45) (.loadS (.t 44)) <|
  .op 2 (some 46) (.mv (.t 5)) <|
  .op 3 (some 47) (.iaddrS 1 (.t 45) (.t 46)) <|
  .op 4 (some 48) (.loadS (.t 47)) <|
  .op 5 (some 49) (.mv (.t 6)) <|
  .op 6 (some 50) (.iaddrS 5 (.t 48) (.t 49)) <|
  .op 7 (some 51) (.loadA 5 (.t 50)) <|
  .op 8 (some 52) (.faddr 0 (.t 3)) <|
  .op 9 (some 53) (.loadS (.t 52)) <|
  .op 10 (some 54) (.mv (.t 5)) <|
  .op 11 (some 55) (.iaddrS 1 (.t 53) (.t 54)) <|
  .op 12 (some 56) (.loadS (.t 55)) <|
  .op 13 (some 57) (.mv (.t 6)) <|
  .op 14 (some 58) (.iaddrS 5 (.t 56) (.t 57)) <|
  .op 15 (some 59) (.loadA 5 (.t 58)) <|
  .op 16 (some 60) (.eqA true [.i, .i, .i, .i, .i] (.t 51) (.t 59)) <|
  .nil) <|
  .fin
def Q23_10 : Sts := .op (some 4) (.mv (.c (.bool false))) <|
  .nil
def Q23_11 : Sts := .op (some 42) (.mv (.t 6)) <|
  .op (some 43) (.bin .add (.t 42) (.c (.int .i64 1))) <|
  .op (some 6) (.mv (.t 43)) <|
  .nil
def Q23_L12 : RCode := (.seq (.seq (.reg Q23_8) (.cond (.t 41) .skip (.exit 2))) (.seq (.block 3 (.seq (.any Q23_9) (.cond (.t 60) (.seq (.reg Q23_10) .ret) .skip))) (.reg Q23_11)))
def Q23_12 : Sts := .op (some 19) (.mv (.t 5)) <|
  .op (some 20) (.bin .add (.t 19) (.c (.int .i64 1))) <|
  .op (some 5) (.mv (.t 20)) <|
  .nil
def Q23_L13 : RCode := (.seq (.seq (.reg Q23_4) (.cond (.t 18) .skip (.exit 0))) (.seq (.block 1 (.seq (.seq (.any Q23_5) (.cond (.t 33) (.seq (.reg Q23_6) .ret) .skip)) (.seq (.reg Q23_7) (.block 2 (.loop Q23_L12))))) (.reg Q23_12)))
def Q23_13 : Sts := .op (some 4) (.mv (.c (.bool true))) <|
  .nil
def Q23 : RFun := ⟨61, [0, 1, 2, 3, 4, 5, 6], (.seq (.reg Q23_0) (.seq (.seq (.reg Q23_1) (.cond (.t 13) (.seq (.reg Q23_2) .ret) .skip)) (.seq (.seq (.reg Q23_3) (.block 0 (.loop Q23_L13))) (.seq (.reg Q23_13) .ret)))), [.tmp 4]⟩
theorem Q23_ok : compF Try.prog [0, 1, 2, 3, 4, 5, 6] [28, 33, 19, 32, 29, 30, 73] 17 = some Q23 := by kernel_rfl

/- lockless/locklessref05.New -/
def Q43_0 : Sts := .op (some 1) (.box 24 (.t 0)) <|
  .op (some 2) (.mv (.c (.pointer none))) <|
  .op (some 3) (.mv (.c (.int .i64 0))) <|
  .nil
def Q43_1 : Sts := .op (some 10) (.loadA 1 (.t 1)) <|
  .op (some 11) (.call 42 [(.t 10)]) <|
  .op (some 9) (.mv (.t 11)) <|
  .op (some 12) (.extract 0 (.t 9)) <|
  .op (some 13) (.extract 1 (.t 9)) <|
  .op (some 4) (.alloc 24 [(.slice none 0 0)]) <|
  .op none (.store 1 (.t 4) (.t 12)) <|
  .op (some 5) (.mv (.t 13)) <|
  .nil
def Q43_2 : Sts := .op (some 14) (.mv (.t 5)) <|
  .op (some 15) (.bin .neq (.t 14) (.c (.int .i64 0))) <|
  .nil
def Q43_3 : Sts := .op (some 16) (.mv (.t 5)) <|
  .op (some 2) (.mv (.c (.pointer none))) <|
  .op (some 3) (.mv (.t 16)) <|
  .nil
def Q43_4 : AT := .q (.op 0 (some 17) (.loadA 1 (.t 4)) <|
  .op 1 (some 18) (.faddr 0 (.t 4)) <|
  .op 2 (some 19) (.loadS (.t 18)) <|
  .op 3 (some 20) (.len (.t 19)) <|
  .op 5 (some 22) (.faddr 0 (.t 4)) <|
  .op 6 (some 23) (.loadS (.t 22)) <|
  .op 7 (some 24) (.len (.t 23)) <|
  .nil) <|
  .s 4 (some 21) (.makeSl 3 1 8 [(.int .i64 0)] (.t 20) (.t 20)) false (
  .q (.nil) <|
  .s 8 (some 25) (.makeSl 32 1 24 [(.slice none 0 0)] (.t 24) (.t 24)) false (
  .q (.nil) <|
  .s 9 (some 26) (.call 43 []) false (
  .q (.op 10 (some 27) (.build [(.slice none 0 0), (.slice none 0 0), (.slice none 0 0), (.slice none 0 0), (.slice none 0 0), (.slice none 0 0), (.slice none 0 0), (.slice none 0 0), (.int .i64 0)] [(0, 1, (.t 17)), (1, 1, (.t 21)), (2, 1, (.t 25)), (7, 1, (.t 26))]) <|
  .nil) <|
  .s 11 (some 28) (.box 84 (.t 27)) true (
  .q (.op 12 (some 6) (.mv (.t 28)) <|
  .nil) <|
  .fin) <|
  .no) <|
  .no) <|
  .s 9 (some 26) (.call 43 []) false (
  .q (.nil) <|
  .s 8 (some 25) (.makeSl 32 1 24 [(.slice none 0 0)] (.t 24) (.t 24)) false (
  .q (.op 10 (some 27) (.build [(.slice none 0 0), (.slice none 0 0), (.slice none 0 0), (.slice none 0 0), (.slice none 0 0), (.slice none 0 0), (.slice none 0 0), (.slice none 0 0), (.int .i64 0)] [(0, 1, (.t 17)), (1, 1, (.t 21)), (2, 1, (.t 25)), (7, 1, (.t 26))]) <|
  .nil) <|
  .s 11 (some 28) (.box 84 (.t 27)) true (
  .q (.op 12 (some 6) (.mv (.t 28)) <|
  .nil) <|
  .fin) <|
  .no) <|
  .no) <|
  .no) <|
  .s 8 (some 25) (.makeSl 32 1 24 [(.slice none 0 0)] (.t 24) (.t 24)) false (
  .q (.nil) <|
  .s 4 (some 21) (.makeSl 3 1 8 [(.int .i64 0)] (.t 20) (.t 20)) false (
  .q (.nil) <|
  .s 9 (some 26) (.call 43 []) false (
  .q (.op 10 (some 27) (.build [(.slice none 0 0), (.slice none 0 0), (.slice none 0 0), (.slice none 0 0), (.slice none 0 0), (.slice none 0 0), (.slice none 0 0), (.slice none 0 0), (.int .i64 0)] [(0, 1, (.t 17)), (1, 1, (.t 21)), (2, 1, (.t 25)), (7, 1, (.t 26))]) <|
  .nil) <|
  .s 11 (some 28) (.box 84 (.t 27)) true (
  .q (.op 12 (some 6) (.mv (.t 28)) <|
  .nil) <|
  .fin) <|
  .no) <|
  .no) <|
  .s 9 (some 26) (.call 43 []) false (
  .q (.nil) <|
  .s 4 (some 21) (.makeSl 3 1 8 [(.int .i64 0)] (.t 20) (.t 20)) false (
  .q (.op 10 (some 27) (.build [(.slice none 0 0), (.slice none 0 0), (.slice none 0 0), (.slice none 0 0), (.slice none 0 0), (.slice none 0 0), (.slice none 0 0), (.slice none 0 0), (.int .i64 0)] [(0, 1, (.t 17)), (1, 1, (.t 21)), (2, 1, (.t 25)), (7, 1, (.t 26))]) <|
  .nil) <|
  .s 11 (some 28) (.box 84 (.t 27)) true (
  .q (.op 12 (some 6) (.mv (.t 28)) <|
  .nil) <|
  .fin) <|
  .no) <|
  .no) <|
  .no) <|
  .s 9 (some 26) (.call 43 []) false (
  .q (.nil) <|
  .s 4 (some 21) (.makeSl 3 1 8 [(.int .i64 0)] (.t 20) (.t 20)) false (
  .q (.nil) <|
  .s 8 (some 25) (.makeSl 32 1 24 [(.slice none 0 0)] (.t 24) (.t 24)) false (
  .q (.op 10 (some 27) (.build [(.slice none 0 0), (.slice none 0 0), (.slice none 0 0), (.slice none 0 0), (.slice none 0 0), (.slice none 0 0), (.slice none 0 0), (.slice none 0 0), (.int .i64 0)] [(0, 1, (.t 17)), (1, 1, (.t 21)), (2, 1, (.t 25)), (7, 1, (.t 26))]) <|
  .nil) <|
  .s 11 (some 28) (.box 84 (.t 27)) true (
  .q (.op 12 (some 6) (.mv (.t 28)) <|
  .nil) <|
  .fin) <|
  .no) <|
  .no) <|
  .s 8 (some 25) (.makeSl 32 1 24 [(.slice none 0 0)] (.t 24) (.t 24)) false (
  .q (.nil) <|
  .s 4 (some 21) (.makeSl 3 1 8 [(.int .i64 0)] (.t 20) (.t 20)) false (
  .q (.op 10 (some 27) (.build [(.slice none 0 0), (.slice none 0 0), (.slice none 0 0), (.slice none 0 0), (.slice none 0 0), (.slice none 0 0), (.slice none 0 0), (.slice none 0 0), (.int .i64 0)] [(0, 1, (.t 17)), (1, 1, (.t 21)), (2, 1, (.t 25)), (7, 1, (.t 26))]) <|
  .nil) <|
  .s 11 (some 28) (.box 84 (.t 27)) true (
  .q (.op 12 (some 6) (.mv (.t 28)) <|
  .nil) <|
  .fin) <|
  .no) <|
  .no) <|
  .no) <|
  .no
def Q43_5 : Sts := .op (some 7) (.mv (.c (.int .i64 0))) <|
  .nil
def Q43_6 : Sts := .op (some 29) (.mv (.t 7)) <|
  .op (some 30) (.bin .lss (.t 29) (.c (.int .i64 3))) <|
  .nil
def Q43_7 : AT := .q (.op 0 (some 33) (.mv (.t 6)) <|
  .op 1 (some 34) (.mv (.t 6)) <|
  .op 2 (some 35) (.nilck (.t 34)) <|
  .op 3 (some 36) (.faddr 3 (.t 35)) <|
  .op 4 (some 37) (.loadS (.t 36)) <|
  .op 5 (some 38) (.mv (.t 7)) <|
  .nil) <|
  .s 6 (some 39) (.call 43 []) false (
  .q (.op 7 (some 40) (.build [(.int .i64 0), (.int .i64 0), (.slice none 0 0), (.bool false)] [(0, 1, (.t 38)), (2, 1, (.t 39))]) <|
  .nil) <|
  .s 8 (some 41) (.buildSl 86 1 [(.int .i64 0), (.int .i64 0), (.slice none 0 0), (.bool false)] [(0, 4, (.t 40))]) false (
  .q (.nil) <|
  .s 9 (some 42) (.buildSl 87 1 [(.slice none 0 0)] [(0, 1, (.t 41))]) false (
  .q (.nil) <|
  .s 10 (some 43) (.append 87 1 24 [(.slice none 0 0)] (.t 37) (.t 42)) false (
  .q (.op 11 (some 44) (.nilck (.t 33)) <|
  .op 12 (some 45) (.faddr 3 (.t 44)) <|
  .nil) <|
  .s 13 none (.store 1 (.t 45) (.t 43)) true (
  .q (.nil) <|
  .fin) <|
  .no) <|
  .no) <|
  .no) <|
  .no) <|
  .no
def Q43_8 : Sts := .op (some 31) (.mv (.t 7)) <|
  .op (some 32) (.bin .add (.t 31) (.c (.int .i64 1))) <|
  .op (some 7) (.mv (.t 32)) <|
  .nil
def Q43_L9 : RCode := (.seq (.seq (.reg Q43_6) (.cond (.t 30) .skip (.exit 0))) (.seq (.block 1 (.any Q43_7)) (.reg Q43_8)))
def Q43_9 : Sts := .op (some 46) (.mv (.t 6)) <|
  .op (some 47) (.nilck (.t 46)) <|
  .op (some 48) (.faddr 8 (.t 47)) <|
  .op none (.store 1 (.t 48) (.c (.int .i64 3))) <|
  .nil
def Q43_10 : Sts := .op (some 8) (.mv (.c (.int .i64 0))) <|
  .nil
def Q43_11 : Sts := .op (some 49) (.mv (.t 8)) <|
  .op (some 50) (.faddr 0 (.t 4)) <|
  .op (some 51) (.loadS (.t 50)) <|
  .op (some 52) (.len (.t 51)) <|
  .op (some 53) (.bin .lss (.t 49) (.t 52)) <|
  .nil
def Q43_12 : AT := .q (.op 0 (some 56) (.mv (.t 6)) <|
  .op 1 (some 57) (.mv (.t 6)) <|
  .op 2 (some 58) (.nilck (.t 57)) <|
  .op 3 (some 59) (.faddr 4 (.t 58)) <|
  .op 4 (some 60) (.loadS (.t 59)) <|
  .nil) <|
  .s 5 (some 61) (.call 43 []) false (
  .q (.nil) <|
  .s 6 (some 62) (.buildSl 32 1 [(.slice none 0 0)] [(0, 1, (.t 61))]) false (
  .q (.nil) <|
  .s 7 (some 63) (.append 32 1 24 [(.slice none 0 0)] (.t 60) (.t 62)) false (
  .q (.op 8 (some 64) (.nilck (.t 56)) <|
  .op 9 (some 65) (.faddr 4 (.t 64)) <|
  .nil) <|
  .s 10 none (.store 1 (.t 65) (.t 63)) true (
  .q (.nil) <|
  .fin) <|
  .no) <|
  .no) <|
  .no) <|
  .no
def Q43_13 : AT := .q (.op 0 (some 66) (.mv (.t 6)) <|
  .op 1 (some 67) (.mv (.t 6)) <|
  .op 2 (some 68) (.nilck (.t 67)) <|
  .op 3 (some 69) (.faddr 5 (.t 68)) <|
  .op 4 (some 70) (.loadS (.t 69)) <|
  .nil) <|
  .s 5 (some 71) (.call 43 []) false (
  .q (.nil) <|
  .s 6 (some 72) (.buildSl 32 1 [(.slice none 0 0)] [(0, 1, (.t 71))]) false (
  .q (.nil) <|
  .s 7 (some 73) (.append 32 1 24 [(.slice none 0 0)] (.t 70) (.t 72)) false (
  .q (.op 8 (some 74) (.nilck (.t 66)) <|
  .op 9 (some 75) (.faddr 5 (.t 74)) <|
  .nil) <|
  .s 10 none (.store 1 (.t 75) (.t 73)) true (
  .q (.nil) <|
  .fin) <|
  .no) <|
  .no) <|
  .no) <|
  .no
def Q43_14 : AT := .q (.op 0 (some 76) (.mv (.t 6)) <|
  .op 1 (some 77) (.mv (.t 6)) <|
  .op 2 (some 78) (.nilck (.t 77)) <|
  .op 3 (some 79) (.faddr 6 (.t 78)) <|
  .op 4 (some 80) (.loadS (.t 79)) <|
  .nil) <|
  .s 5 (some 81) (.call 43 []) false (
  .q (.nil) <|
  .s 6 (some 82) (.buildSl 32 1 [(.slice none 0 0)] [(0, 1, (.t 81))]) false (
  .q (.nil) <|
  .s 7 (some 83) (.append 32 1 24 [(.slice none 0 0)] (.t 80) (.t 82)) false (
  .q (.op 8 (some 84) (.nilck (.t 76)) <|
  .op 9 (some 85) (.faddr 6 (.t 84)) <|
  .nil) <|
  .s 10 none (.store 1 (.t 85) (.t 83)) true (
  .q (.nil) <|
  .fin) <|
  .no) <|
  .no) <|
  .no) <|
  .no
def Q43_15 : Sts := .op (some 54) (.mv (.t 8)) <|
  .op (some 55) (.bin .add (.t 54) (.c (.int .i64 1))) <|
  .op (some 8) (.mv (.t 55)) <|
  .nil
def Q43_L16 : RCode := (.seq (.seq (.reg Q43_11) (.cond (.t 53) .skip (.exit 2))) (.seq (.block 3 (.seq (.any Q43_12) (.seq (.any Q43_13) (.any Q43_14)))) (.reg Q43_15)))
def Q43_16 : Sts := .op (some 86) (.mv (.t 6)) <|
  .op (some 2) (.mv (.t 86)) <|
  .op (some 3) (.mv (.c (.int .i64 0))) <|
  .nil
def Q43 : RFun := ⟨87, [0, 1, 2, 3, 4, 5, 6, 7, 8], (.seq (.reg Q43_0) (.seq (.reg Q43_1) (.seq (.seq (.reg Q43_2) (.cond (.t 15) (.seq (.reg Q43_3) .ret) .skip)) (.seq (.any Q43_4) (.seq (.seq (.reg Q43_5) (.block 0 (.loop Q43_L9))) (.seq (.reg Q43_9) (.seq (.seq (.reg Q43_10) (.block 2 (.loop Q43_L16))) (.seq (.reg Q43_16) .ret)))))))), [.tmp 2, .tmp 3]⟩
theorem Q43_ok : compF Try.prog [0, 1, 2, 3, 4, 5, 6, 7, 8] [28, 33, 19, 32, 29, 30, 73] 18 = some Q43 := by kernel_rfl

/- lockless/locklesslaw05.alike -/
def Q14_0 : Sts := .op (some 4) (.mv (.c (.bool false))) <|
  .nil
def Q14_1 : Sts := .op (some 28) (.mv (.t 0)) <|
  .op (some 29) (.call 26 [(.t 28)]) <|
  .op (some 30) (.mv (.t 1)) <|
  .op (some 31) (.call 44 [(.t 30)]) <|
  .op (some 32) (.eqb true (.t 29) (.t 31)) <|
  .nil
def Q14_2 : Sts := .op (some 4) (.mv (.c (.bool false))) <|
  .nil
def Q14_3 : Sts := .op (some 5) (.mv (.c (.int .i64 (-1)))) <|
  .nil
def Q14_4 : Sts := .op (some 33) (.mv (.t 5)) <|
  .op (some 34) (.bin .leq (.t 33) (.c (.int .i64 3))) <|
  .nil
def Q14_5 : Sts := .op (some 38) (.mv (.t 0)) <|
  .op (some 39) (.mv (.t 5)) <|
  .op (some 40) (.call 23 [(.t 38), (.t 39)]) <|
  .op (some 37) (.mv (.t 40)) <|
  .op (some 41) (.extract 0 (.t 37)) <|
  .op (some 42) (.extract 1 (.t 37)) <|
  .op (some 6) (.mv (.t 41)) <|
  .op (some 7) (.mv (.t 42)) <|
  .nil
def Q14_6 : Sts := .op (some 44) (.mv (.t 1)) <|
  .op (some 45) (.mv (.t 5)) <|
  .op (some 46) (.call 45 [(.t 44), (.t 45)]) <|
  .op (some 43) (.mv (.t 46)) <|
  .op (some 47) (.extract 0 (.t 43)) <|
  .op (some 48) (.extract 1 (.t 43)) <|
  .op (some 8) (.mv (.t 47)) <|
  .op (some 9) (.mv (.t 48)) <|
  .nil
def Q14_7 : Sts := .op (some 50) (.mv (.t 0)) <|
  .op (some 51) (.mv (.t 5)) <|
  .op (some 52) (.call 22 [(.t 50), (.t 51)]) <|
  .op (some 49) (.mv (.t 52)) <|
  .op (some 53) (.extract 0 (.t 49)) <|
  .op (some 54) (.extract 1 (.t 49)) <|
  .op (some 10) (.mv (.t 53)) <|
  .op (some 11) (.mv (.t 54)) <|
  .nil
def Q14_8 : Sts := .op (some 56) (.mv (.t 1)) <|
  .op (some 57) (.mv (.t 5)) <|
  .op (some 58) (.call 39 [(.t 56), (.t 57)]) <|
  .op (some 55) (.mv (.t 58)) <|
  .op (some 59) (.extract 0 (.t 55)) <|
  .op (some 60) (.extract 1 (.t 55)) <|
  .op (some 12) (.mv (.t 59)) <|
  .op (some 13) (.mv (.t 60)) <|
  .nil
def Q14_9 : Sts := .op (some 61) (.mv (.t 6)) <|
  .op (some 62) (.mv (.t 8)) <|
  .op (some 63) (.bin .neq (.t 61) (.t 62)) <|
  .op (some 64) (.mv (.t 63)) <|
  .cnd 64 false (
  .op (some 65) (.mv (.t 7)) <|
  .op (some 66) (.mv (.t 9)) <|
  .op (some 67) (.bin .neq (.t 65) (.t 66)) <|
  .nil) 68 (.t 67) <|
  .op (some 69) (.mv (.t 68)) <|
  .cnd 69 false (
  .op (some 70) (.mv (.t 10)) <|
  .op (some 71) (.mv (.t 12)) <|
  .op (some 72) (.bin .neq (.t 70) (.t 71)) <|
  .nil) 73 (.t 72) <|
  .op (some 74) (.mv (.t 73)) <|
  .cnd 74 false (
  .op (some 75) (.mv (.t 11)) <|
  .op (some 76) (.mv (.t 13)) <|
  .op (some 77) (.bin .neq (.t 75) (.t 76)) <|
  .nil) 78 (.t 77) <|
  .nil
def Q14_10 : Sts := .op (some 4) (.mv (.c (.bool false))) <|
  .nil
def Q14_11 : Sts := .op (some 14) (.mv (.c (.int .i64 (-1)))) <|
  .nil
def Q14_12 : Sts := .op (some 79) (.mv (.t 14)) <|
  .op (some 80) (.bin .leq (.t 79) (.c (.int .i64 3))) <|
  .nil
def Q14_13 : Sts := .op (some 84) (.mv (.t 0)) <|
  .op (some 85) (.mv (.t 5)) <|
  .op (some 86) (.mv (.t 14)) <|
  .op (some 87) (.call 12 [(.t 84), (.t 85), (.t 86)]) <|
  .op (some 83) (.mv (.t 87)) <|
  .op (some 88) (.extract 0 (.t 83)) <|
  .op (some 89) (.extract 1 (.t 83)) <|
  .op (some 15) (.mv (.t 88)) <|
  .op (some 16) (.mv (.t 89)) <|
  .nil
def Q14_14 : Sts := .op (some 91) (.mv (.t 1)) <|
  .op (some 92) (.mv (.t 5)) <|
  .op (some 93) (.mv (.t 14)) <|
  .op (some 94) (.call 46 [(.t 91), (.t 92), (.t 93)]) <|
  .op (some 90) (.mv (.t 94)) <|
  .op (some 95) (.extract 0 (.t 90)) <|
  .op (some 96) (.extract 1 (.t 90)) <|
  .op (some 17) (.mv (.t 95)) <|
  .op (some 18) (.mv (.t 96)) <|
  .nil
def Q14_15 : Sts := .op (some 97) (.mv (.t 15)) <|
  .op (some 98) (.mv (.t 17)) <|
  .op (some 99) (.bin .neq (.t 97) (.t 98)) <|
  .op (some 100) (.mv (.t 99)) <|
  .cnd 100 false (
  .op (some 101) (.mv (.t 16)) <|
  .op (some 102) (.mv (.t 18)) <|
  .op (some 103) (.bin .neq (.t 101) (.t 102)) <|
  .nil) 104 (.t 103) <|
  .nil
def Q14_16 : Sts := .op (some 4) (.mv (.c (.bool false))) <|
  .nil
def Q14_17 : Sts := .op (some 81) (.mv (.t 14)) <|
  .op (some 82) (.bin .add (.t 81) (.c (.int .i64 1))) <|
  .op (some 14) (.mv (.t 82)) <|
  .nil
def Q14_L18 : RCode := (.seq (.seq (.reg Q14_12) (.cond (.t 80) .skip (.exit 2))) (.seq (.block 3 (.seq (.reg Q14_13) (.seq (.reg Q14_14) (.seq (.reg Q14_15) (.cond (.t 104) (.seq (.reg Q14_16) .ret) .skip))))) (.reg Q14_17)))
def Q14_18 : Sts := .op (some 35) (.mv (.t 5)) <|
  .op (some 36) (.bin .add (.t 35) (.c (.int .i64 1))) <|
  .op (some 5) (.mv (.t 36)) <|
  .nil
def Q14_L19 : RCode := (.seq (.seq (.reg Q14_4) (.cond (.t 34) .skip (.exit 0))) (.seq (.block 1 (.seq (.reg Q14_5) (.seq (.reg Q14_6) (.seq (.reg Q14_7) (.seq (.reg Q14_8) (.seq (.seq (.reg Q14_9) (.cond (.t 78) (.seq (.reg Q14_10) .ret) .skip)) (.seq (.reg Q14_11) (.block 2 (.loop Q14_L18))))))))) (.reg Q14_18)))
def Q14_19 : Sts := .op (some 19) (.mv (.c (.int .i64 (-1)))) <|
  .nil
def Q14_20 : Sts := .op (some 105) (.mv (.t 19)) <|
  .op (some 106) (.bin .leq (.t 105) (.c (.int .i64 3))) <|
  .nil
def Q14_21 : Sts := .op (some 110) (.mv (.t 0)) <|
  .op (some 111) (.mv (.t 19)) <|
  .op (some 112) (.call 24 [(.t 110), (.t 111)]) <|
  .op (some 109) (.mv (.t 112)) <|
  .op (some 113) (.extract 0 (.t 109)) <|
  .op (some 114) (.extract 1 (.t 109)) <|
  .op (some 20) (.mv (.t 113)) <|
  .op (some 21) (.mv (.t 114)) <|
  .nil
def Q14_22 : Sts := .op (some 116) (.mv (.t 1)) <|
  .op (some 117) (.mv (.t 19)) <|
  .op (some 118) (.call 47 [(.t 116), (.t 117)]) <|
  .op (some 115) (.mv (.t 118)) <|
  .op (some 119) (.extract 0 (.t 115)) <|
  .op (some 120) (.extract 1 (.t 115)) <|
  .op (some 22) (.mv (.t 119)) <|
  .op (some 23) (.mv (.t 120)) <|
  .nil
def Q14_23 : Sts := .op (some 121) (.mv (.t 21)) <|
  .op (some 122) (.mv (.t 23)) <|
  .op (some 123) (.bin .neq (.t 121) (.t 122)) <|
  .op (some 124) (.mv (.t 123)) <|
  .cnd 124 false (
  .op (some 125) (.mv (.t 20)) <|
  .op (some 126) (.mv (.t 22)) <|
  .op (some 127) (.call 16 [(.t 125), (.t 126)]) <|
  .op (some 128) (.notb (.t 127)) <|
  .nil) 129 (.t 128) <|
  .nil
def Q14_24 : Sts := .op (some 4) (.mv (.c (.bool false))) <|
  .nil
def Q14_25 : Sts := .op (some 107) (.mv (.t 19)) <|
  .op (some 108) (.bin .add (.t 107) (.c (.int .i64 1))) <|
  .op (some 19) (.mv (.t 108)) <|
  .nil
def Q14_L26 : RCode := (.seq (.seq (.reg Q14_20) (.cond (.t 106) .skip (.exit 4))) (.seq (.block 5 (.seq (.reg Q14_21) (.seq (.reg Q14_22) (.seq (.reg Q14_23) (.cond (.t 129) (.seq (.reg Q14_24) .ret) .skip))))) (.reg Q14_25)))
def Q14_26 : Sts := .op (some 131) (.mv (.t 0)) <|
  .op (some 132) (.call 25 [(.t 131)]) <|
  .op (some 130) (.mv (.t 132)) <|
  .op (some 133) (.extract 0 (.t 130)) <|
  .op (some 134) (.extract 1 (.t 130)) <|
  .op (some 24) (.mv (.t 133)) <|
  .op (some 25) (.mv (.t 134)) <|
  .nil
def Q14_27 : Sts := .op (some 136) (.mv (.t 1)) <|
  .op (some 137) (.call 41 [(.t 136)]) <|
  .op (some 135) (.mv (.t 137)) <|
  .op (some 138) (.extract 0 (.t 135)) <|
  .op (some 139) (.extract 1 (.t 135)) <|
  .op (some 26) (.mv (.t 138)) <|
  .op (some 27) (.mv (.t 139)) <|
  .nil
def Q14_28 : Sts := .op (some 140) (.mv (.t 25)) <|
  .op (some 141) (.mv (.t 27)) <|
  .op (some 142) (.bin .eql (.t 140) (.t 141)) <|
  .op (some 143) (.mv (.t 142)) <|
  .cnd 143 true (
  .op (some 144) (.mv (.t 24)) <|
  .op (some 145) (.mv (.t 26)) <|
  .op (some 146) (.call 16 [(.t 144), (.t 145)]) <|
  .nil) 147 (.t 146) <|
  .op (some 4) (.mv (.t 147)) <|
  .nil
def Q14 : RFun := ⟨148, [0, 1, 4, 5, 6, 7, 8, 9, 10, 11, 12, 13, 14, 15, 16, 17, 18, 19, 20, 21, 22, 23, 24, 25, 26, 27], (.seq (.reg Q14_0) (.seq (.seq (.reg Q14_1) (.cond (.t 32) (.seq (.reg Q14_2) .ret) .skip)) (.seq (.seq (.reg Q14_3) (.block 0 (.loop Q14_L19))) (.seq (.seq (.reg Q14_19) (.block 4 (.loop Q14_L26))) (.seq (.reg Q14_26) (.seq (.reg Q14_27) (.seq (.reg Q14_28) .ret))))))), [.tmp 4]⟩
theorem Q14_ok : compF Try.prog [0, 1, 4, 5, 6, 7, 8, 9, 10, 11, 12, 13, 14, 15, 16, 17, 18, 19, 20, 21, 22, 23, 24, 25, 26, 27] [28, 33, 19, 32, 29, 30, 73] 19 = some Q14 := by kernel_rfl

/- (*lockless/locklessref05.Machine).Step -/
def Q33_0 : Sts := .op (some 6) (.mv (.c (.int .i64 0))) <|
  .nil
def Q33_1 : Sts := .op (some 14) (.mv (.t 0)) <|
  .op (some 15) (.mv (.t 1)) <|
  .op (some 16) (.call 39 [(.t 14), (.t 15)]) <|
  .op (some 13) (.mv (.t 16)) <|
  .op (some 17) (.extract 0 (.t 13)) <|
  .op (some 18) (.extract 1 (.t 13)) <|
  .op (some 7) (.mv (.t 17)) <|
  .op (some 8) (.mv (.t 18)) <|
  .nil
def Q33_2 : Sts := .op (some 19) (.mv (.t 8)) <|
  .op (some 20) (.bin .neq (.t 19) (.c (.int .i64 0))) <|
  .nil
def Q33_3 : Sts := .op (some 21) (.mv (.t 8)) <|
  .op (some 6) (.mv (.t 21)) <|
  .nil
def Q33_4 : Sts := .op (some 22) (.mv (.t 2)) <|
  .op (some 23) (.bin .lss (.t 22) (.c (.int .i64 0))) <|
  .op (some 24) (.mv (.t 23)) <|
  .cnd 24 false (
  .op (some 25) (.mv (.t 2)) <|
  .op (some 26) (.mv (.t 7)) <|
  .op (some 27) (.bin .geq (.t 25) (.t 26)) <|
  .nil) 28 (.t 27) <|
  .nil
def Q33_5 : Sts := .op (some 6) (.mv (.c (.int .i64 3))) <|
  .nil
def Q33_6 : Sts := .op (some 29) (.mv (.t 0)) <|
  .op (some 30) (.mv (.t 1)) <|
  .op (some 31) (.call 48 [(.t 29), (.t 30)]) <|
  .op (some 32) (.mv (.t 2)) <|
  .op (some 33) (.iaddrS 3 (.t 31) (.t 32)) <|
  .op (some 34) (.loadA 3 (.t 33)) <|
  .op (some 9) (.alloc 89 [(.int .i64 0), (.int .i64 0), (.bool false)]) <|
  .op none (.store 3 (.t 9) (.t 34)) <|
  .nil
def Q33_7 : AT := .q (.op 0 (some 35) (.mv (.t 0)) <|
  .op 1 (some 36) (.nilck (.t 35)) <|
  .op 2 (some 37) (.faddr 0 (.t 36)) <|
  .op 3 (some 38) (.faddr 0 (.t 37)) <|
  .op 4 (some 39) (.loadS (.t 38)) <|
  .op 5 (some 40) (.mv (.t 1)) <|
  .op 6 (some 41) (.iaddrS 1 (.t 39) (.t 40)) <|
  .op 7 (some 42) (.loadS (.t 41)) <|
  .op 8 (some 43) (.mv (.t 0)) <|
  .op 9 (some 44) (.nilck (.t 43)) <|
  .op 10 (some 45) (.faddr 1 (.t 44)) <|
  .op 11 (some 46) (.loadS (.t 45)) <|
  .op 12 (some 47) (.mv (.t 1)) <|
  .op 13 (some 48) (.iaddrS 1 (.t 46) (.t 47)) <|
  .op 14 (some 49) (.loadI .i64 (.t 48)) <|
  .op 15 (some 50) (.iaddrS 5 (.t 42) (.t 49)) <|
  .op 16 (some 51) (.loadA 5 (.t 50)) <|
  .nil) <|
  .s 17 (some 10) (.alloc 55 [(.int .i64 0), (.int .i64 0), (.int .i64 0), (.int .i64 0), (.int .i64 0)]) false (
  .q (.nil) <|
  .s 18 none (.store 5 (.t 10) (.t 51)) true (
  .q (.nil) <|
  .fin) <|
  .no) <|
  .no
def Q33_8 : AT := .q (.op 0 (some 52) (.mv (.t 0)) <|
  .op 1 (some 53) (.nilck (.t 52)) <|
  .op 2 (some 54) (.faddr 1 (.t 53)) <|
  .op 3 (some 55) (.loadS (.t 54)) <|
  .op 4 (some 56) (.mv (.t 1)) <|
  .op 5 (some 57) (.mv (.t 0)) <|
  .op 6 (some 58) (.nilck (.t 57)) <|
  .op 7 (some 59) (.faddr 1 (.t 58)) <|
  .op 8 (some 60) (.loadS (.t 59)) <|
  .op 9 (some 61) (.mv (.t 1)) <|
  .op 10 (some 62) (.iaddrS 1 (.t 60) (.t 61)) <|
  .op 11 (some 63) (.loadI .i64 (.t 62)) <|
  .op 12 (some 64) (.bin .add (.t 63) (.c (.int .i64 1))) <|
  .op 13 (some 65) (.iaddrS 1 (.t 55) (.t 56)) <|
  .nil) <|
  .s 14 none (.store 1 (.t 65) (.t 64)) true (
  .q (.nil) <|
  .fin) <|
  .no
def Q33_9 : Sts := .op (some 66) (.faddr 0 (.t 10)) <|
  .op (some 67) (.loadI .i64 (.t 66)) <|
  .op (some 68) (.bin .eql (.t 67) (.c (.int .i64 5))) <|
  .nil
def Q33_10 : Sts := .op (some 69) (.mv (.t 0)) <|
  .op (some 70) (.mv (.t 1)) <|
  .op (some 71) (.faddr 4 (.t 10)) <|
  .op (some 72) (.loadI .i64 (.t 71)) <|
  .op (some 73) (.call 49 [(.t 69), (.t 70), (.t 72)]) <|
  .nil
def Q33_11 : Sts := .op (some 6) (.mv (.c (.int .i64 0))) <|
  .nil
def Q33_12 : Sts := .op (some 11) (.alloc 86 [(.int .i64 0), (.int .i64 0), (.slice none 0 0), (.bool false)]) <|
  .nil
def Q33_13 : Sts := .op (some 74) (.faddr 0 (.t 9)) <|
  .op (some 75) (.loadI .i64 (.t 74)) <|
  .op (some 76) (.bin .geq (.t 75) (.c (.int .i64 0))) <|
  .nil
def Q33_14 : AT := .q (.op 0 (some 77) (.mv (.t 0)) <|
  .op 1 (some 78) (.nilck (.t 77)) <|
  .op 2 (some 79) (.faddr 3 (.t 78)) <|
  .op 3 (some 80) (.loadS (.t 79)) <|
  .op 4 (some 81) (.faddr 1 (.t 10)) <|
  .op 5 (some 82) (.loadI .i64 (.t 81)) <|
  .op 6 (some 83) (.iaddrS 1 (.t 80) (.t 82)) <|
  .op 7 (some 84) (.loadS (.t 83)) <|
  .op 8 (some 85) (.faddr 0 (.t 9)) <|
  .op 9 (some 86) (.loadI .i64 (.t 85)) <|
  .op 10 (some 87) (.iaddrS 4 (.t 84) (.t 86)) <|
  .op 11 (some 88) (.loadA 4 (.t 87)) <|
  .nil) <|
  .s 12 none (.store 4 (.t 11) (.t 88)) true (
  .q (.nil) <|
  .fin) <|
  .no
def Q33_15 : AT := .q (.op 0 (some 89) (.mv (.t 0)) <|
  .op 1 (some 90) (.nilck (.t 89)) <|
  .op 2 (some 91) (.faddr 2 (.t 90)) <|
  .op 3 (some 92) (.loadS (.t 91)) <|
  .op 4 (some 93) (.mv (.t 1)) <|
  .op 5 (some 94) (.mv (.t 0)) <|
  .op 6 (some 95) (.nilck (.t 94)) <|
  .op 7 (some 96) (.faddr 2 (.t 95)) <|
  .op 8 (some 97) (.loadS (.t 96)) <|
  .op 9 (some 98) (.mv (.t 1)) <|
  .op 10 (some 99) (.iaddrS 1 (.t 97) (.t 98)) <|
  .op 11 (some 100) (.loadS (.t 99)) <|
  .op 12 (some 101) (.faddr 1 (.t 11)) <|
  .op 13 (some 102) (.loadI .i64 (.t 101)) <|
  .nil) <|
  .s 14 (some 103) (.buildSl 3 1 [(.int .i64 0)] [(0, 1, (.t 102))]) false (
  .q (.nil) <|
  .s 15 (some 104) (.append 3 1 8 [(.int .i64 0)] (.t 100) (.t 103)) false (
  .q (.op 16 (some 105) (.iaddrS 1 (.t 92) (.t 93)) <|
  .nil) <|
  .s 17 none (.store 1 (.t 105) (.t 104)) true (
  .q (.nil) <|
  .fin) <|
  .no) <|
  .no) <|
  .no
def Q33_16 : Sts := .op (some 106) (.call 43 []) <|
  .op (some 12) (.mv (.t 106)) <|
  .nil
def Q33_17 : Sts := .op (some 107) (.mv (.t 12)) <|
  .op (some 108) (.faddr 1 (.t 10)) <|
  .op (some 109) (.loadI .i64 (.t 108)) <|
  .op (some 110) (.faddr 0 (.t 11)) <|
  .op (some 111) (.loadI .i64 (.t 110)) <|
  .op (some 112) (.iaddrS 1 (.t 107) (.t 109)) <|
  .op none (.store 1 (.t 112) (.t 111)) <|
  .nil
def Q33_18 : AT := .q (.op 0 (some 113) (.mv (.t 0)) <|
  .op 1 (some 114) (.nilck (.t 113)) <|
  .op 2 (some 115) (.faddr 4 (.t 114)) <|
  .op 3 (some 116) (.loadS (.t 115)) <|
  .op 4 (some 117) (.mv (.t 1)) <|
  .op 5 (some 118) (.mv (.t 0)) <|
  .op 6 (some 119) (.mv (.t 0)) <|
  .op 7 (some 120) (.nilck (.t 119)) <|
  .op 8 (some 121) (.faddr 4 (.t 120)) <|
  .op 9 (some 122) (.loadS (.t 121)) <|
  .op 10 (some 123) (.mv (.t 1)) <|
  .op 11 (some 124) (.iaddrS 1 (.t 122) (.t 123)) <|
  .op 12 (some 125) (.loadS (.t 124)) <|
  .op 13 (some 126) (.mv (.t 12)) <|
  .nil) <|
  .s 14 (some 127) (.call 50 [(.t 118), (.t 125), (.t 126)]) false (
  .q (.op 15 (some 128) (.iaddrS 1 (.t 116) (.t 117)) <|
  .nil) <|
  .s 16 none (.store 1 (.t 128) (.t 127)) true (
  .q (.nil) <|
  .fin) <|
  .no) <|
  .no
def Q33_19 : AT := .q (.op 0 (some 129) (.mv (.t 0)) <|
  .op 1 (some 130) (.nilck (.t 129)) <|
  .op 2 (some 131) (.faddr 5 (.t 130)) <|
  .op 3 (some 132) (.loadS (.t 131)) <|
  .op 4 (some 133) (.mv (.t 1)) <|
  .op 5 (some 134) (.mv (.t 0)) <|
  .op 6 (some 135) (.mv (.t 0)) <|
  .op 7 (some 136) (.mv (.t 0)) <|
  .op 8 (some 137) (.nilck (.t 136)) <|
  .op 9 (some 138) (.faddr 5 (.t 137)) <|
  .op 10 (some 139) (.loadS (.t 138)) <|
  .op 11 (some 140) (.mv (.t 1)) <|
  .op 12 (some 141) (.iaddrS 1 (.t 139) (.t 140)) <|
  .op 13 (some 142) (.loadS (.t 141)) <|
  .op 14 (some 143) (.mv (.t 12)) <|
  .op 16 (some 145) (.faddr 2 (.t 11)) <|
  .op 17 (some 146) (.loadS (.t 145)) <|
  .nil) <|
  .s 15 (some 144) (.call 50 [(.t 135), (.t 142), (.t 143)]) false (
  .q (.nil) <|
  .s 18 (some 147) (.call 50 [(.t 134), (.t 144), (.t 146)]) false (
  .q (.op 19 (some 148) (.iaddrS 1 (.t 132) (.t 133)) <|
  .nil) <|
  .s 20 none (.store 1 (.t 148) (.t 147)) true (
  .q (.nil) <|
  .fin) <|
  .no) <|
  .no) <|
  .no
def Q33_20 : Sts := .op (some 149) (.faddr 4 (.t 10)) <|
  .op (some 150) (.loadI .i64 (.t 149)) <|
  .op (some 151) (.call 51 [(.t 150)]) <|
  .nil
def Q33_21 : AT := .q (.op 0 (some 152) (.mv (.t 0)) <|
  .op 1 (some 153) (.nilck (.t 152)) <|
  .op 2 (some 154) (.faddr 4 (.t 153)) <|
  .op 3 (some 155) (.loadS (.t 154)) <|
  .op 4 (some 156) (.mv (.t 1)) <|
  .op 5 (some 157) (.mv (.t 0)) <|
  .op 6 (some 158) (.mv (.t 0)) <|
  .op 7 (some 159) (.nilck (.t 158)) <|
  .op 8 (some 160) (.faddr 4 (.t 159)) <|
  .op 9 (some 161) (.loadS (.t 160)) <|
  .op 10 (some 162) (.mv (.t 1)) <|
  .op 11 (some 163) (.iaddrS 1 (.t 161) (.t 162)) <|
  .op 12 (some 164) (.loadS (.t 163)) <|
  .op 13 (some 165) (.faddr 2 (.t 11)) <|
  .op 14 (some 166) (.loadS (.t 165)) <|
  .nil) <|
  .s 15 (some 167) (.call 50 [(.t 157), (.t 164), (.t 166)]) false (
  .q (.op 16 (some 168) (.iaddrS 1 (.t 155) (.t 156)) <|
  .nil) <|
  .s 17 none (.store 1 (.t 168) (.t 167)) true (
  .q (.nil) <|
  .fin) <|
  .no) <|
  .no
def Q33_22 : AT := .q (.op 0 (some 169) (.mv (.t 0)) <|
  .op 1 (some 170) (.nilck (.t 169)) <|
  .op 2 (some 171) (.faddr 5 (.t 170)) <|
  .op 3 (some 172) (.loadS (.t 171)) <|
  .op 4 (some 173) (.mv (.t 1)) <|
  .op 5 (some 174) (.mv (.t 0)) <|
  .op 6 (some 175) (.mv (.t 0)) <|
  .op 7 (some 176) (.nilck (.t 175)) <|
  .op 8 (some 177) (.faddr 5 (.t 176)) <|
  .op 9 (some 178) (.loadS (.t 177)) <|
  .op 10 (some 179) (.mv (.t 1)) <|
  .op 11 (some 180) (.iaddrS 1 (.t 178) (.t 179)) <|
  .op 12 (some 181) (.loadS (.t 180)) <|
  .op 13 (some 182) (.mv (.t 0)) <|
  .op 14 (some 183) (.nilck (.t 182)) <|
  .op 15 (some 184) (.faddr 4 (.t 183)) <|
  .op 16 (some 185) (.loadS (.t 184)) <|
  .op 17 (some 186) (.mv (.t 1)) <|
  .op 18 (some 187) (.iaddrS 1 (.t 185) (.t 186)) <|
  .op 19 (some 188) (.loadS (.t 187)) <|
  .nil) <|
  .s 20 (some 189) (.call 50 [(.t 174), (.t 181), (.t 188)]) false (
  .q (.op 21 (some 190) (.iaddrS 1 (.t 172) (.t 173)) <|
  .nil) <|
  .s 22 none (.store 1 (.t 190) (.t 189)) true (
  .q (.nil) <|
  .fin) <|
  .no) <|
  .no
def Q33_23 : Sts := .op (some 191) (.faddr 2 (.t 9)) <|
  .op (some 192) (.loadB (.t 191)) <|
  .nil
def Q33_24 : Sts := .op (some 193) (.mv (.t 0)) <|
  .op (some 194) (.mv (.t 1)) <|
  .op (some 195) (.loadA 5 (.t 10)) <|
  .op (some 196) (.loadA 3 (.t 9)) <|
  .op (some 197) (.loadA 4 (.t 11)) <|
  .op (some 198) (.call 52 [(.t 193), (.t 194), (.t 195), (.t 196), (.t 197)]) <|
  .nil
def Q33_25 : Sts := .op (some 6) (.mv (.c (.int .i64 0))) <|
  .nil
def Q33 : RFun := ⟨199, [0, 1, 2, 6, 7, 8, 9, 10, 11, 12], (.seq (.reg Q33_0) (.seq (.reg Q33_1) (.seq (.seq (.reg Q33_2) (.cond (.t 20) (.seq (.reg Q33_3) .ret) .skip)) (.seq (.seq (.reg Q33_4) (.cond (.t 28) (.seq (.reg Q33_5) .ret) .skip)) (.seq (.reg Q33_6) (.seq (.any Q33_7) (.seq (.any Q33_8) (.seq (.seq (.reg Q33_9) (.cond (.t 68) (.seq (.reg Q33_10) (.seq (.reg Q33_11) .ret)) .skip)) (.seq (.reg Q33_12) (.seq (.seq (.reg Q33_13) (.cond (.t 76) (.seq (.any Q33_14) (.seq (.any Q33_15) (.seq (.reg Q33_16) (.seq (.reg Q33_17) (.seq (.any Q33_18) (.seq (.any Q33_19) (.seq (.seq (.reg Q33_20) (.cond (.t 151) (.any Q33_21) .skip)) (.any Q33_22)))))))) .skip)) (.seq (.seq (.reg Q33_23) (.cond (.t 192) (.reg Q33_24) .skip)) (.seq (.reg Q33_25) .ret)))))))))))), [.tmp 6]⟩
theorem Q33_ok : compF Try.prog [0, 1, 2, 6, 7, 8, 9, 10, 11, 12] [28, 33, 19, 32, 29, 30, 73] 20 = some Q33 := by kernel_rfl

/- (*lockless/view.Machine).Copy -/
def Q68_0 : Sts := .op (some 2) (.mv (.c (.pointer none))) <|
  .nil
def Q68_1 : Sts := .op (some 8) (.mv (.t 0)) <|
  .op (some 9) (.call 32 [(.t 8)]) <|
  .op (some 10) (.notb (.t 9)) <|
  .nil
def Q68_2 : Sts := .op (some 2) (.mv (.c (.pointer none))) <|
  .nil
def Q68_3 : Sts := .op (some 11) (.mv (.t 0)) <|
  .op (some 12) (.nilck (.t 11)) <|
  .op (some 13) (.loadA 9 (.t 12)) <|
  .op (some 3) (.alloc 65 [(.slice none 0 0), (.slice none 0 0), (.slice none 0 0), (.slice none 0 0), (.slice none 0 0), (.slice none 0 0), (.int .i64 0), (.int .i64 0), (.int .i64 0)]) <|
  .op none (.store 9 (.t 3) (.t 13)) <|
  .nil
def Q68_4 : Sts := .op (some 14) (.faddr 0 (.t 3)) <|
  .op none (.store 1 (.t 14) (.c (.slice none 0 0))) <|
  .nil
def Q68_5 : Sts := .op (some 15) (.mv (.t 0)) <|
  .op (some 16) (.nilck (.t 15)) <|
  .op (some 17) (.faddr 0 (.t 16)) <|
  .op (some 18) (.loadS (.t 17)) <|
  .op (some 19) (.len (.t 18)) <|
  .op (some 20) (.mv (.c (.int .i64 0))) <|
  .nil
def Q68_6 : Sts := .op (some 21) (.bin .lss (.t 20) (.t 19)) <|
  .nil
def Q68_7 : Sts := .op (some 22) (.iaddrS 1 (.t 18) (.t 20)) <|
  .op (some 23) (.loadS (.t 22)) <|
  .op (some 5) (.mv (.t 23)) <|
  .nil
def Q68_8 : AT := .q (.op 0 (some 24) (.faddr 0 (.t 3)) <|
  .op 1 (some 25) (.loadS (.t 24)) <|
  .op 2 (some 26) (.mv (.t 5)) <|
  .nil) <|
  .s 3 (some 27) (.call 53 [(.t 26)]) false (
  .q (.nil) <|
  .s 4 (some 28) (.buildSl 53 1 [(.slice none 0 0)] [(0, 1, (.t 27))]) false (
  .q (.nil) <|
  .s 5 (some 29) (.append 53 1 24 [(.slice none 0 0)] (.t 25) (.t 28)) true (
  .q (.op 6 (some 30) (.faddr 0 (.t 3)) <|
  .nil) <|
  .s 7 none (.store 1 (.t 30) (.t 29)) true (
  .q (.nil) <|
  .fin) <|
  .no) <|
  .no) <|
  .no) <|
  .no
def Q68_9 : Sts := .op (some 31) (.bin .add (.t 20) (.c (.int .i64 1))) <|
  .op (some 20) (.mv (.t 31)) <|
  .nil
def Q68_L10 : RCode := (.seq (.reg Q68_6) (.seq (.cond (.t 21) .skip (.exit 0)) (.seq (.block 1 (.seq (.reg Q68_7) (.any Q68_8))) (.reg Q68_9))))
def Q68_10 : Sts := .op (some 32) (.mv (.t 0)) <|
  .op (some 33) (.nilck (.t 32)) <|
  .op (some 34) (.faddr 1 (.t 33)) <|
  .op (some 35) (.loadS (.t 34)) <|
  .op (some 36) (.call 54 [(.t 35)]) <|
  .op (some 37) (.faddr 1 (.t 3)) <|
  .op none (.store 1 (.t 37) (.t 36)) <|
  .nil
def Q68_11 : Sts := .op (some 38) (.mv (.c (.int .i64 0))) <|
  .nil
def Q68_12 : Sts := .op (some 39) (.bin .lss (.t 38) (.c (.int .i64 3))) <|
  .nil
def Q68_13 : Sts := .op (some 40) (.mv (.t 38)) <|
  .op (some 6) (.mv (.t 40)) <|
  .nil
def Q68_14 : Sts := .op (some 41) (.mv (.t 6)) <|
  .op (some 42) (.mv (.t 0)) <|
  .op (some 43) (.mv (.t 6)) <|
  .op (some 44) (.nilck (.t 42)) <|
  .op (some 45) (.faddr 2 (.t 44)) <|
  .op (some 46) (.iaddrA 3 1 (.t 45) (.t 43)) <|
  .op (some 47) (.loadS (.t 46)) <|
  .op (some 48) (.call 55 [(.t 47)]) <|
  .op (some 49) (.faddr 2 (.t 3)) <|
  .op (some 50) (.iaddrA 3 1 (.t 49) (.t 41)) <|
  .op none (.store 1 (.t 50) (.t 48)) <|
  .nil
def Q68_15 : Sts := .op (some 51) (.bin .add (.t 38) (.c (.int .i64 1))) <|
  .op (some 38) (.mv (.t 51)) <|
  .nil
def Q68_L16 : RCode := (.seq (.reg Q68_12) (.seq (.cond (.t 39) .skip (.exit 2)) (.seq (.block 3 (.seq (.reg Q68_13) (.reg Q68_14))) (.reg Q68_15))))
def Q68_16 : Sts := .op (some 52) (.mv (.t 0)) <|
  .op (some 53) (.nilck (.t 52)) <|
  .op (some 54) (.faddr 5 (.t 53)) <|
  .op (some 55) (.loadS (.t 54)) <|
  .op (some 56) (.call 56 [(.t 55)]) <|
  .op (some 57) (.faddr 5 (.t 3)) <|
  .op none (.store 1 (.t 57) (.t 56)) <|
  .nil
def Q68_17 : Sts := .op (some 58) (.faddr 5 (.t 3)) <|
  .op (some 59) (.loadS (.t 58)) <|
  .op (some 60) (.len (.t 59)) <|
  .op (some 61) (.mv (.c (.int .i64 0))) <|
  .nil
def Q68_18 : Sts := .op (some 62) (.bin .lss (.t 61) (.t 60)) <|
  .nil
def Q68_19 : Sts := .op (some 63) (.mv (.t 61)) <|
  .op (some 7) (.mv (.t 63)) <|
  .nil
def Q68_20 : AT := .q (.op 0 (some 64) (.faddr 5 (.t 3)) <|
  .op 1 (some 65) (.loadS (.t 64)) <|
  .op 2 (some 66) (.mv (.t 7)) <|
  .op 3 (some 67) (.mv (.t 0)) <|
  .op 4 (some 68) (.nilck (.t 67)) <|
  .op 5 (some 69) (.faddr 5 (.t 68)) <|
  .op 6 (some 70) (.loadS (.t 69)) <|
  .op 7 (some 71) (.mv (.t 7)) <|
  .op 8 (some 72) (.iaddrS 11 (.t 70) (.t 71)) <|
  .op 9 (some 73) (.faddr 9 (.t 72)) <|
  .op 10 (some 74) (.loadS (.t 73)) <|
  .nil) <|
  .s 11 (some 75) (.call 55 [(.t 74)]) false (
  .q (.op 12 (some 76) (.iaddrS 11 (.t 65) (.t 66)) <|
  .op 13 (some 77) (.faddr 9 (.t 76)) <|
  .nil) <|
  .s 14 none (.store 1 (.t 77) (.t 75)) true (
  .q (.nil) <|
  .fin) <|
  .no) <|
  .no
def Q68_21 : Sts := .op (some 78) (.bin .add (.t 61) (.c (.int .i64 1))) <|
  .op (some 61) (.mv (.t 78)) <|
  .nil
def Q68_L22 : RCode := (.seq (.reg Q68_18) (.seq (.cond (.t 62) .skip (.exit 4)) (.seq (.block 5 (.seq (.reg Q68_19) (.any Q68_20))) (.reg Q68_21))))
def Q68_22 : Sts := .op (some 2) (.mv (.t 3)) <|
  .nil
def Q68 : RFun := ⟨79, [0, 2, 3, 5, 6, 7, 18, 19, 20, 38, 60, 61], (.seq (.reg Q68_0) (.seq (.seq (.reg Q68_1) (.cond (.t 10) (.seq (.reg Q68_2) .ret) .skip)) (.seq (.reg Q68_3) (.seq (.reg Q68_4) (.seq (.seq (.reg Q68_5) (.block 0 (.loop Q68_L10))) (.seq (.reg Q68_10) (.seq (.seq (.reg Q68_11) (.block 2 (.loop Q68_L16))) (.seq (.reg Q68_16) (.seq (.seq (.reg Q68_17) (.block 4 (.loop Q68_L22))) (.seq (.reg Q68_22) .ret)))))))))), [.tmp 2]⟩
theorem Q68_ok : compF Try.prog [0, 2, 3, 5, 6, 7, 18, 19, 20, 38, 60, 61] [28, 33, 19, 32, 29, 30, 73] 21 = some Q68 := by kernel_rfl

/- (*lockless/view.Machine).Choices -/
def Q67_0 : Sts := .op (some 4) (.mv (.c (.int .i64 0))) <|
  .op (some 5) (.mv (.c (.int .i64 0))) <|
  .nil
def Q67_1 : Sts := .op (some 9) (.mv (.t 0)) <|
  .op (some 10) (.mv (.t 1)) <|
  .op (some 11) (.call 29 [(.t 9), (.t 10)]) <|
  .op (some 8) (.mv (.t 11)) <|
  .op (some 12) (.extract 0 (.t 8)) <|
  .op (some 13) (.extract 1 (.t 8)) <|
  .op (some 6) (.alloc 55 [(.int .i64 0), (.int .i64 0), (.int .i64 0), (.int .i64 0), (.int .i64 0)]) <|
  .op none (.store 5 (.t 6) (.t 12)) <|
  .op (some 7) (.mv (.t 13)) <|
  .nil
def Q67_2 : Sts := .op (some 14) (.mv (.t 7)) <|
  .op (some 15) (.bin .neq (.t 14) (.c (.int .i64 0))) <|
  .nil
def Q67_3 : Sts := .op (some 16) (.mv (.t 7)) <|
  .op (some 4) (.mv (.c (.int .i64 0))) <|
  .op (some 5) (.mv (.t 16)) <|
  .nil
def Q67_4 : Sts := .op (some 17) (.mv (.t 0)) <|
  .op (some 18) (.mv (.t 1)) <|
  .op (some 19) (.loadA 5 (.t 6)) <|
  .op (some 20) (.call 30 [(.t 17), (.t 18), (.t 19)]) <|
  .op (some 21) (.len (.t 20)) <|
  .op (some 4) (.mv (.t 21)) <|
  .op (some 5) (.mv (.c (.int .i64 0))) <|
  .nil
def Q67 : RFun := ⟨22, [0, 1, 4, 5, 6, 7], (.seq (.reg Q67_0) (.seq (.reg Q67_1) (.seq (.seq (.reg Q67_2) (.cond (.t 15) (.seq (.reg Q67_3) .ret) .skip)) (.seq (.reg Q67_4) .ret)))), [.tmp 4, .tmp 5]⟩
theorem Q67_ok : compF Try.prog [0, 1, 4, 5, 6, 7] [28, 33, 19, 32, 29, 30, 73] 22 = some Q67 := by kernel_rfl

/- (*lockless/view.Machine).Left -/
def Q69_0 : Sts := .op (some 4) (.mv (.c (.int .i64 0))) <|
  .op (some 5) (.mv (.c (.int .i64 0))) <|
  .nil
def Q69_1 : Sts := .op (some 6) (.mv (.t 0)) <|
  .op (some 7) (.call 32 [(.t 6)]) <|
  .op (some 8) (.notb (.t 7)) <|
  .op (some 9) (.mv (.t 8)) <|
  .cnd 9 false (
  .op (some 10) (.mv (.t 1)) <|
  .op (some 11) (.bin .lss (.t 10) (.c (.int .i64 0))) <|
  .nil) 12 (.t 11) <|
  .op (some 13) (.mv (.t 12)) <|
  .cnd 13 false (
  .op (some 14) (.mv (.t 1)) <|
  .op (some 15) (.mv (.t 0)) <|
  .op (some 16) (.nilck (.t 15)) <|
  .op (some 17) (.faddr 5 (.t 16)) <|
  .op (some 18) (.loadS (.t 17)) <|
  .op (some 19) (.len (.t 18)) <|
  .op (some 20) (.bin .geq (.t 14) (.t 19)) <|
  .nil) 21 (.t 20) <|
  .nil
def Q69_2 : Sts := .op (some 4) (.mv (.c (.int .i64 0))) <|
  .op (some 5) (.mv (.c (.int .i64 1))) <|
  .nil
def Q69_3 : Sts := .op (some 22) (.mv (.t 0)) <|
  .op (some 23) (.call 36 [(.t 22)]) <|
  .op (some 24) (.mv (.t 1)) <|
  .op (some 25) (.iaddrS 1 (.t 23) (.t 24)) <|
  .op (some 26) (.loadI .i64 (.t 25)) <|
  .op (some 4) (.mv (.t 26)) <|
  .op (some 5) (.mv (.c (.int .i64 0))) <|
  .nil
def Q69 : RFun := ⟨27, [0, 1, 4, 5], (.seq (.reg Q69_0) (.seq (.seq (.reg Q69_1) (.cond (.t 21) (.seq (.reg Q69_2) .ret) .skip)) (.seq (.reg Q69_3) .ret))), [.tmp 4, .tmp 5]⟩
theorem Q69_ok : compF Try.prog [0, 1, 4, 5] [28, 33, 19, 32, 29, 30, 73] 23 = some Q69 := by kernel_rfl

/- (*lockless/view.Machine).Words -/
def Q75_0 : Sts := .op (some 4) (.mv (.c (.slice none 0 0))) <|
  .op (some 5) (.mv (.c (.int .i64 0))) <|
  .nil
def Q75_1 : Sts := .op (some 9) (.mv (.t 0)) <|
  .op (some 10) (.call 32 [(.t 9)]) <|
  .op (some 11) (.notb (.t 10)) <|
  .op (some 12) (.mv (.t 11)) <|
  .cnd 12 false (
  .op (some 13) (.mv (.t 1)) <|
  .op (some 14) (.bin .lss (.t 13) (.c (.int .i64 0))) <|
  .nil) 15 (.t 14) <|
  .op (some 16) (.mv (.t 15)) <|
  .cnd 16 false (
  .op (some 17) (.mv (.t 1)) <|
  .op (some 18) (.bin .geq (.t 17) (.c (.int .i64 3))) <|
  .nil) 19 (.t 18) <|
  .nil
def Q75_2 : Sts := .op (some 4) (.mv (.c (.slice none 0 0))) <|
  .op (some 5) (.mv (.c (.int .i64 1))) <|
  .nil
def Q75_3 : Sts := .op (some 6) (.mv (.c (.slice none 0 0))) <|
  .nil
def Q75_4 : Sts := .op (some 20) (.mv (.t 0)) <|
  .op (some 21) (.mv (.t 1)) <|
  .op (some 22) (.nilck (.t 20)) <|
  .op (some 23) (.faddr 2 (.t 22)) <|
  .op (some 24) (.iaddrA 3 1 (.t 23) (.t 21)) <|
  .op (some 25) (.loadS (.t 24)) <|
  .op (some 26) (.len (.t 25)) <|
  .op (some 27) (.mv (.c (.int .i64 0))) <|
  .nil
def Q75_5 : Sts := .op (some 28) (.bin .lss (.t 27) (.t 26)) <|
  .nil
def Q75_6 : Sts := .op (some 29) (.iaddrS 1 (.t 25) (.t 27)) <|
  .op (some 30) (.loadI .i64 (.t 29)) <|
  .op (some 8) (.mv (.t 30)) <|
  .nil
def Q75_7 : Sts := .op (some 31) (.mv (.t 6)) <|
  .op (some 32) (.mv (.t 0)) <|
  .op (some 33) (.nilck (.t 32)) <|
  .op (some 34) (.faddr 1 (.t 33)) <|
  .op (some 35) (.loadS (.t 34)) <|
  .op (some 36) (.mv (.t 8)) <|
  .op (some 37) (.iaddrS 5 (.t 35) (.t 36)) <|
  .op (some 38) (.faddr 0 (.t 37)) <|
  .op (some 39) (.loadI .i64 (.t 38)) <|
  .op (some 40) (.buildSl 3 1 [(.int .i64 0)] [(0, 1, (.t 39))]) <|
  .op (some 41) (.append 3 1 8 [(.int .i64 0)] (.t 31) (.t 40)) <|
  .op (some 6) (.mv (.t 41)) <|
  .nil
def Q75_8 : Sts := .op (some 42) (.bin .add (.t 27) (.c (.int .i64 1))) <|
  .op (some 27) (.mv (.t 42)) <|
  .nil
def Q75_L9 : RCode := (.seq (.reg Q75_5) (.seq (.cond (.t 28) .skip (.exit 0)) (.seq (.block 1 (.seq (.reg Q75_6) (.reg Q75_7))) (.reg Q75_8))))
def Q75_9 : Sts := .op (some 43) (.mv (.t 6)) <|
  .op (some 4) (.mv (.t 43)) <|
  .op (some 5) (.mv (.c (.int .i64 0))) <|
  .nil
def Q75 : RFun := ⟨44, [0, 1, 4, 5, 6, 8, 25, 26, 27], (.seq (.reg Q75_0) (.seq (.seq (.reg Q75_1) (.cond (.t 19) (.seq (.reg Q75_2) .ret) .skip)) (.seq (.reg Q75_3) (.seq (.seq (.reg Q75_4) (.block 0 (.loop Q75_L9))) (.seq (.reg Q75_9) .ret))))), [.tmp 4, .tmp 5]⟩
theorem Q75_ok : compF Try.prog [0, 1, 4, 5, 6, 8, 25, 26, 27] [28, 33, 19, 32, 29, 30, 73] 24 = some Q75 := by kernel_rfl

/- (*lockless/view.Machine).Outcome -/
def Q70_0 : Sts := .op (some 2) (.mv (.c (.slice none 0 0))) <|
  .op (some 3) (.mv (.c (.int .i64 0))) <|
  .nil
def Q70_1 : Sts := .op (some 4) (.mv (.t 0)) <|
  .op (some 5) (.call 32 [(.t 4)]) <|
  .op (some 6) (.notb (.t 5)) <|
  .nil
def Q70_2 : Sts := .op (some 2) (.mv (.c (.slice none 0 0))) <|
  .op (some 3) (.mv (.c (.int .i64 1))) <|
  .nil
def Q70_3 : Sts := .op (some 7) (.mv (.t 0)) <|
  .op (some 8) (.call 26 [(.t 7)]) <|
  .op (some 9) (.notb (.t 8)) <|
  .nil
def Q70_4 : Sts := .op (some 2) (.mv (.c (.slice none 0 0))) <|
  .op (some 3) (.mv (.c (.int .i64 7))) <|
  .nil
def Q70_5 : Sts := .op (some 10) (.mv (.t 0)) <|
  .op (some 11) (.call 38 [(.t 10)]) <|
  .op (some 2) (.mv (.t 11)) <|
  .op (some 3) (.mv (.c (.int .i64 0))) <|
  .nil
def Q70 : RFun := ⟨12, [0, 2, 3], (.seq (.reg Q70_0) (.seq (.seq (.reg Q70_1) (.cond (.t 6) (.seq (.reg Q70_2) .ret) .skip)) (.seq (.seq (.reg Q70_3) (.cond (.t 9) (.seq (.reg Q70_4) .ret) .skip)) (.seq (.reg Q70_5) .ret)))), [.tmp 2, .tmp 3]⟩
theorem Q70_ok : compF Try.prog [0, 2, 3] [28, 33, 19, 32, 29, 30, 73] 25 = some Q70 := by kernel_rfl

/- (*lockless/view.Machine).Over -/
def Q71_0 : Sts := .op (some 2) (.mv (.c (.bool false))) <|
  .nil
def Q71_1 : Sts := .op (some 3) (.mv (.t 0)) <|
  .op (some 4) (.call 32 [(.t 3)]) <|
  .op (some 5) (.notb (.t 4)) <|
  .op (some 6) (.mv (.t 5)) <|
  .cnd 6 false (
  .op (some 7) (.mv (.t 0)) <|
  .op (some 8) (.call 36 [(.t 7)]) <|
  .op (some 9) (.call 57 [(.t 8), (.c (.func (.func 58) #[] #[]))]) <|
  .op (some 10) (.notb (.t 9)) <|
  .nil) 11 (.t 10) <|
  .op (some 2) (.mv (.t 11)) <|
  .nil
def Q71 : RFun := ⟨12, [0, 2], (.seq (.reg Q71_0) (.seq (.reg Q71_1) .ret)), [.tmp 2]⟩
theorem Q71_ok : compF Try.prog [0, 2] [28, 33, 19, 32, 29, 30, 73] 26 = some Q71 := by kernel_rfl

/- lockless/litmus.Expand -/
def Q1_0 : Sts := .op (some 1) (.box 24 (.t 0)) <|
  .op (some 2) (.alloc 24 [(.slice none 0 0)]) <|
  .op (some 3) (.mv (.c (.int .i64 0))) <|
  .nil
def Q1_1 : Sts := .op (some 5) (.loadA 1 (.t 1)) <|
  .op (some 6) (.call 59 [(.t 5)]) <|
  .op (some 4) (.mv (.t 6)) <|
  .nil
def Q1_2 : Sts := .op (some 7) (.mv (.t 4)) <|
  .op (some 8) (.bin .neq (.t 7) (.c (.int .i64 0))) <|
  .nil
def Q1_3 : Sts := .op (some 9) (.build [(.slice none 0 0)] []) <|
  .op (some 10) (.mv (.t 4)) <|
  .op none (.store 1 (.t 2) (.t 9)) <|
  .op (some 3) (.mv (.t 10)) <|
  .nil
def Q1_4 : Sts := .op (some 11) (.loadA 1 (.t 1)) <|
  .op (some 12) (.call 60 [(.t 11), (.c (.func (.func 61) #[] #[]))]) <|
  .op none (.store 1 (.t 2) (.t 12)) <|
  .op (some 3) (.mv (.c (.int .i64 0))) <|
  .nil
def Q1 : RFun := ⟨13, [0, 1, 2, 3, 4], (.seq (.reg Q1_0) (.seq (.seq (.reg Q1_1) (.seq (.reg Q1_2) (.cond (.t 8) (.seq (.reg Q1_3) .ret) .skip))) (.seq (.reg Q1_4) .ret))), [.cellA 2 1, .tmp 3]⟩
theorem Q1_ok : compF Try.prog [0, 1, 2, 3, 4] [28, 33, 19, 32, 29, 30, 73] 27 = some Q1 := by kernel_rfl

/- lockless/view.none -/
def Q93_0 : Sts := .op (some 0) (.alloc 59 [(.int .i64 0), (.int .i64 0), (.int .i64 0)]) <|
  .nil
def Q93_1 : Sts := .op (some 1) (.build [(.int .i64 0), (.int .i64 0), (.int .i64 0)] [(0, 1, (.c (.int .i64 (-1)))), (1, 1, (.c (.int .i64 (-1)))), (2, 1, (.c (.int .i64 (-1))))]) <|
  .op none (.store 3 (.t 0) (.t 1)) <|
  .nil
def Q93 : RFun := ⟨2, [0], (.seq (.reg Q93_0) (.seq (.reg Q93_1) .ret)), [.cellA 0 3]⟩
theorem Q93_ok : compF Try.prog [0] [28, 33, 19, 32, 29, 30, 73] 28 = some Q93 := by kernel_rfl

/- (*lockless/view.Machine).turn -/
def Q86_0 : Sts := .op (some 4) (.alloc 55 [(.int .i64 0), (.int .i64 0), (.int .i64 0), (.int .i64 0), (.int .i64 0)]) <|
  .op (some 5) (.mv (.c (.int .i64 0))) <|
  .nil
def Q86_1 : Sts := .op (some 7) (.mv (.t 0)) <|
  .op (some 8) (.call 32 [(.t 7)]) <|
  .op (some 9) (.notb (.t 8)) <|
  .op (some 10) (.mv (.t 9)) <|
  .cnd 10 false (
  .op (some 11) (.mv (.t 1)) <|
  .op (some 12) (.bin .lss (.t 11) (.c (.int .i64 0))) <|
  .nil) 13 (.t 12) <|
  .op (some 14) (.mv (.t 13)) <|
  .cnd 14 false (
  .op (some 15) (.mv (.t 1)) <|
  .op (some 16) (.mv (.t 0)) <|
  .op (some 17) (.nilck (.t 16)) <|
  .op (some 18) (.faddr 5 (.t 17)) <|
  .op (some 19) (.loadS (.t 18)) <|
  .op (some 20) (.len (.t 19)) <|
  .op (some 21) (.bin .geq (.t 15) (.t 20)) <|
  .nil) 22 (.t 21) <|
  .nil
def Q86_2 : Sts := .op (some 23) (.build [(.int .i64 0), (.int .i64 0), (.int .i64 0), (.int .i64 0), (.int .i64 0)] []) <|
  .op none (.store 5 (.t 4) (.t 23)) <|
  .op (some 5) (.mv (.c (.int .i64 1))) <|
  .nil
def Q86_3 : Sts := .op (some 24) (.mv (.t 0)) <|
  .op (some 25) (.nilck (.t 24)) <|
  .op (some 26) (.faddr 0 (.t 25)) <|
  .op (some 27) (.loadS (.t 26)) <|
  .op (some 28) (.mv (.t 1)) <|
  .op (some 29) (.iaddrS 1 (.t 27) (.t 28)) <|
  .op (some 30) (.loadS (.t 29)) <|
  .op (some 6) (.mv (.t 30)) <|
  .nil
def Q86_4 : Sts := .op (some 31) (.mv (.t 0)) <|
  .op (some 32) (.nilck (.t 31)) <|
  .op (some 33) (.faddr 5 (.t 32)) <|
  .op (some 34) (.loadS (.t 33)) <|
  .op (some 35) (.mv (.t 1)) <|
  .op (some 36) (.iaddrS 11 (.t 34) (.t 35)) <|
  .op (some 37) (.faddr 10 (.t 36)) <|
  .op (some 38) (.loadI .i64 (.t 37)) <|
  .op (some 39) (.mv (.t 6)) <|
  .op (some 40) (.len (.t 39)) <|
  .op (some 41) (.bin .eql (.t 38) (.t 40)) <|
  .nil
def Q86_5 : Sts := .op (some 42) (.build [(.int .i64 0), (.int .i64 0), (.int .i64 0), (.int .i64 0), (.int .i64 0)] []) <|
  .op none (.store 5 (.t 4) (.t 42)) <|
  .op (some 5) (.mv (.c (.int .i64 7))) <|
  .nil
def Q86_6 : Sts := .op (some 43) (.mv (.t 6)) <|
  .op (some 44) (.mv (.t 0)) <|
  .op (some 45) (.nilck (.t 44)) <|
  .op (some 46) (.faddr 5 (.t 45)) <|
  .op (some 47) (.loadS (.t 46)) <|
  .op (some 48) (.mv (.t 1)) <|
  .op (some 49) (.iaddrS 11 (.t 47) (.t 48)) <|
  .op (some 50) (.faddr 10 (.t 49)) <|
  .op (some 51) (.loadI .i64 (.t 50)) <|
  .op (some 52) (.iaddrS 5 (.t 43) (.t 51)) <|
  .op (some 53) (.loadA 5 (.t 52)) <|
  .op none (.store 5 (.t 4) (.t 53)) <|
  .op (some 5) (.mv (.c (.int .i64 0))) <|
  .nil
def Q86 : RFun := ⟨54, [0, 1, 4, 5, 6], (.seq (.reg Q86_0) (.seq (.seq (.reg Q86_1) (.cond (.t 22) (.seq (.reg Q86_2) .ret) .skip)) (.seq (.reg Q86_3) (.seq (.seq (.reg Q86_4) (.cond (.t 41) (.seq (.reg Q86_5) .ret) .skip)) (.seq (.reg Q86_6) .ret))))), [.cellA 4 5, .tmp 5]⟩
theorem Q86_ok : compF Try.prog [0, 1, 4, 5, 6] [28, 33, 19, 32, 29, 30, 73] 29 = some Q86 := by kernel_rfl

/- (*lockless/view.Machine).choices -/
def Q77_0 : Sts := .op (some 5) (.box 55 (.t 2)) <|
  .op (some 6) (.mv (.c (.slice none 0 0))) <|
  .nil
def Q77_1 : Sts := .op (some 12) (.faddr 0 (.t 5)) <|
  .op (some 13) (.loadI .i64 (.t 12)) <|
  .op (some 14) (.bin .eql (.t 13) (.c (.int .i64 5))) <|
  .nil
def Q77_2 : Sts := .op (some 15) (.build [(.int .i64 0), (.bool false)] []) <|
  .op (some 16) (.buildSl 76 1 [(.int .i64 0), (.bool false)] [(0, 2, (.t 15))]) <|
  .op (some 6) (.mv (.t 16)) <|
  .nil
def Q77_3 : Sts := .op (some 7) (.mv (.c (.slice none 0 0))) <|
  .nil
def Q77_4 : AT := .q (.op 0 (some 17) (.mv (.t 0)) <|
  .op 1 (some 18) (.faddr 1 (.t 5)) <|
  .op 2 (some 19) (.loadI .i64 (.t 18)) <|
  .op 3 (some 20) (.mv (.t 0)) <|
  .op 4 (some 21) (.nilck (.t 20)) <|
  .op 5 (some 22) (.faddr 5 (.t 21)) <|
  .op 6 (some 23) (.loadS (.t 22)) <|
  .op 7 (some 24) (.mv (.t 1)) <|
  .op 8 (some 25) (.faddr 1 (.t 5)) <|
  .op 9 (some 26) (.loadI .i64 (.t 25)) <|
  .op 10 (some 27) (.iaddrS 11 (.t 23) (.t 24)) <|
  .op 11 (some 28) (.faddr 0 (.t 27)) <|
  .op 12 (some 29) (.iaddrA 3 1 (.t 28) (.t 26)) <|
  .op 13 (some 30) (.loadI .i64 (.t 29)) <|
  .op 14 (some 31) (.call 33 [(.t 17), (.t 19), (.t 30)]) <|
  .op 15 (some 8) (.mv (.t 31)) <|
  .nil) <|
  .fin
def Q77_5 : AT := .q (.op 0 (some 32) (.mv (.t 8)) <|
  .op 1 (some 33) (.mv (.t 0)) <|
  .op 2 (some 34) (.faddr 1 (.t 5)) <|
  .op 3 (some 35) (.loadI .i64 (.t 34)) <|
  .op 4 (some 36) (.nilck (.t 33)) <|
  .op 5 (some 37) (.faddr 2 (.t 36)) <|
  .op 6 (some 38) (.iaddrA 3 1 (.t 37) (.t 35)) <|
  .op 7 (some 39) (.loadS (.t 38)) <|
  .op 8 (some 40) (.len (.t 39)) <|
  .op 9 (some 41) (.bin .lss (.t 32) (.t 40)) <|
  .nil) <|
  .fin
def Q77_6 : AT := .q (.op 0 (some 44) (.mv (.t 0)) <|
  .op 1 (some 45) (.nilck (.t 44)) <|
  .op 2 (some 46) (.faddr 1 (.t 45)) <|
  .op 3 (some 47) (.loadS (.t 46)) <|
  .op 4 (some 48) (.mv (.t 0)) <|
  .op 5 (some 49) (.faddr 1 (.t 5)) <|
  .op 6 (some 50) (.loadI .i64 (.t 49)) <|
  .op 7 (some 51) (.nilck (.t 48)) <|
  .op 8 (some 52) (.faddr 2 (.t 51)) <|
  .op 9 (some 53) (.iaddrA 3 1 (.t 52) (.t 50)) <|
  .op 10 (some 54) (.loadS (.t 53)) <|
  .op 11 (some 55) (.mv (.t 8)) <|
  .op 12 (some 56) (.iaddrS 1 (.t 54) (.t 55)) <|
  .op 13 (some 57) (.loadI .i64 (.t 56)) <|
  .op 14 (some 58) (.iaddrS 5 (.t 47) (.t 57)) <|
  .op 15 (some 59) (.faddr 0 (.t 58)) <|
  .op 16 (some 60) (.loadI .i64 (.t 59)) <|
  .op 17 (some 9) (.mv (.t 60)) <|
  .nil) <|
  .fin
def Q77_7 : Sts := .op (some 61) (.mv (.t 0)) <|
  .op (some 62) (.faddr 1 (.t 5)) <|
  .op (some 63) (.loadI .i64 (.t 62)) <|
  .op (some 64) (.mv (.t 8)) <|
  .op (some 65) (.call 65 [(.t 61), (.t 63), (.t 64)]) <|
  .op (some 66) (.notb (.t 65)) <|
  .op (some 10) (.mv (.t 66)) <|
  .nil
def Q77_8 : Sts := .op (some 67) (.faddr 0 (.t 5)) <|
  .op (some 68) (.loadI .i64 (.t 67)) <|
  .op (some 69) (.bin .eql (.t 68) (.c (.int .i64 1))) <|
  .op (some 70) (.mv (.t 69)) <|
  .cnd 70 false (
  .op (some 71) (.faddr 0 (.t 5)) <|
  .op (some 72) (.loadI .i64 (.t 71)) <|
  .op (some 73) (.bin .eql (.t 72) (.c (.int .i64 2))) <|
  .nil) 74 (.t 73) <|
  .op (some 75) (.mv (.t 74)) <|
  .cnd 75 false (
  .op (some 76) (.faddr 0 (.t 5)) <|
  .op (some 77) (.loadI .i64 (.t 76)) <|
  .op (some 78) (.bin .neq (.t 77) (.c (.int .i64 0))) <|
  .op (some 79) (.mv (.t 78)) <|
  .cnd 79 true (
  .op (some 80) (.mv (.t 9)) <|
  .op (some 81) (.faddr 2 (.t 5)) <|
  .op (some 82) (.loadI .i64 (.t 81)) <|
  .op (some 83) (.bin .eql (.t 80) (.t 82)) <|
  .nil) 84 (.t 83) <|
  .nil) 85 (.t 84) <|
  .op (some 11) (.mv (.t 85)) <|
  .nil
def Q77_9 : Sts := .op (some 86) (.mv (.t 11)) <|
  .op (some 87) (.mv (.t 86)) <|
  .cnd 87 true (
  .op (some 88) (.mv (.t 10)) <|
  .nil) 89 (.t 88) <|
  .nil
def Q77_10 : Sts := .op (some 90) (.mv (.t 7)) <|
  .op (some 91) (.mv (.t 8)) <|
  .op (some 92) (.build [(.int .i64 0), (.bool false)] [(0, 1, (.t 91)), (1, 1, (.c (.bool true)))]) <|
  .op (some 93) (.buildSl 76 1 [(.int .i64 0), (.bool false)] [(0, 2, (.t 92))]) <|
  .op (some 94) (.append 76 2 16 [(.int .i64 0), (.bool false)] (.t 90) (.t 93)) <|
  .op (some 7) (.mv (.t 94)) <|
  .nil
def Q77_11 : Sts := .op (some 95) (.mv (.t 11)) <|
  .op (some 96) (.notb (.t 95)) <|
  .op (some 97) (.mv (.t 96)) <|
  .cnd 97 false (
  .op (some 98) (.faddr 0 (.t 5)) <|
  .op (some 99) (.loadI .i64 (.t 98)) <|
  .op (some 100) (.bin .eql (.t 99) (.c (.int .i64 4))) <|
  .nil) 101 (.t 100) <|
  .nil
def Q77_12 : Sts := .op (some 102) (.mv (.t 7)) <|
  .op (some 103) (.mv (.t 8)) <|
  .op (some 104) (.build [(.int .i64 0), (.bool false)] [(0, 1, (.t 103)), (1, 1, (.c (.bool false)))]) <|
  .op (some 105) (.buildSl 76 1 [(.int .i64 0), (.bool false)] [(0, 2, (.t 104))]) <|
  .op (some 106) (.append 76 2 16 [(.int .i64 0), (.bool false)] (.t 102) (.t 105)) <|
  .op (some 7) (.mv (.t 106)) <|
  .nil
def Q77_13 : Sts := .op (some 42) (.mv (.t 8)) <|
  .op (some 43) (.bin .add (.t 42) (.c (.int .i64 1))) <|
  .op (some 8) (.mv (.t 43)) <|
  .nil
def Q77_L14 : RCode := (.seq (.seq (.any Q77_5) (.cond (.t 41) .skip (.exit 0))) (.seq (.block 1 (.seq (.any Q77_6) (.seq (.reg Q77_7) (.seq (.reg Q77_8) (.seq (.seq (.reg Q77_9) (.cond (.t 89) (.reg Q77_10) .skip)) (.seq (.reg Q77_11) (.cond (.t 101) (.reg Q77_12) .skip))))))) (.reg Q77_13)))
def Q77_14 : Sts := .op (some 107) (.mv (.t 7)) <|
  .op (some 6) (.mv (.t 107)) <|
  .nil
def Q77 : RFun := ⟨108, [0, 1, 2, 5, 6, 7, 8, 9, 10, 11], (.seq (.reg Q77_0) (.seq (.seq (.reg Q77_1) (.cond (.t 14) (.seq (.reg Q77_2) .ret) .skip)) (.seq (.reg Q77_3) (.seq (.seq (.any Q77_4) (.block 0 (.loop Q77_L14))) (.seq (.reg Q77_14) .ret))))), [.tmp 6]⟩
theorem Q77_ok : compF Try.prog [0, 1, 2, 5, 6, 7, 8, 9, 10, 11] [28, 33, 19, 32, 29, 30, 73] 30 = some Q77 := by kernel_rfl

/- (*lockless/view.Machine).does -/
def Q78_0 : Sts := .op (some 6) (.box 55 (.t 2)) <|
  .op (some 7) (.box 76 (.t 3)) <|
  .nil
def Q78_1 : Sts := .op (some 10) (.mv (.t 0)) <|
  .op (some 11) (.nilck (.t 10)) <|
  .op (some 12) (.faddr 5 (.t 11)) <|
  .op (some 13) (.loadS (.t 12)) <|
  .op (some 14) (.mv (.t 1)) <|
  .op (some 15) (.iaddrS 11 (.t 13) (.t 14)) <|
  .op (some 16) (.faddr 10 (.t 15)) <|
  .op (some 17) (.loadI .i64 (.t 16)) <|
  .op (some 18) (.bin .add (.t 17) (.c (.int .i64 1))) <|
  .op (some 19) (.iaddrS 11 (.t 13) (.t 14)) <|
  .op (some 20) (.faddr 10 (.t 19)) <|
  .op none (.store 1 (.t 20) (.t 18)) <|
  .nil
def Q78_2 : Sts := .op (some 21) (.faddr 0 (.t 6)) <|
  .op (some 22) (.loadI .i64 (.t 21)) <|
  .op (some 23) (.bin .eql (.t 22) (.c (.int .i64 5))) <|
  .nil
def Q78_3 : Sts := .op (some 24) (.mv (.t 0)) <|
  .op (some 25) (.mv (.t 1)) <|
  .op (some 26) (.loadA 5 (.t 6)) <|
  .op (some 27) (.call 66 [(.t 24), (.t 25), (.t 26)]) <|
  .nil
def Q78_4 : Sts := .op (some 28) (.faddr 3 (.t 6)) <|
  .op (some 29) (.loadI .i64 (.t 28)) <|
  .op (some 8) (.mv (.t 29)) <|
  .nil
def Q78_5 : Sts := .op (some 30) (.faddr 0 (.t 6)) <|
  .op (some 31) (.loadI .i64 (.t 30)) <|
  .op (some 32) (.bin .eql (.t 31) (.c (.int .i64 1))) <|
  .nil
def Q78_6 : Sts := .op (some 33) (.faddr 2 (.t 6)) <|
  .op (some 34) (.loadI .i64 (.t 33)) <|
  .op (some 8) (.mv (.t 34)) <|
  .nil
def Q78_7 : AT := .q (.op 0 (some 35) (.mv (.t 0)) <|
  .op 1 (some 36) (.faddr 1 (.t 6)) <|
  .op 2 (some 37) (.loadI .i64 (.t 36)) <|
  .op 3 (some 38) (.nilck (.t 35)) <|
  .op 4 (some 39) (.faddr 2 (.t 38)) <|
  .op 5 (some 40) (.iaddrA 3 1 (.t 39) (.t 37)) <|
  .op 6 (some 41) (.loadS (.t 40)) <|
  .op 7 (some 42) (.faddr 0 (.t 7)) <|
  .op 8 (some 43) (.loadI .i64 (.t 42)) <|
  .op 9 (some 44) (.iaddrS 1 (.t 41) (.t 43)) <|
  .op 10 (some 45) (.loadI .i64 (.t 44)) <|
  .op 11 (some 9) (.mv (.t 45)) <|
  .nil) <|
  .fin
def Q78_8 : Sts := .op (some 46) (.mv (.t 0)) <|
  .op (some 47) (.mv (.t 1)) <|
  .op (some 48) (.mv (.t 9)) <|
  .op (some 49) (.loadA 5 (.t 6)) <|
  .op (some 50) (.call 67 [(.t 46), (.t 47), (.t 48), (.t 49)]) <|
  .nil
def Q78_9 : Sts := .op (some 51) (.faddr 0 (.t 6)) <|
  .op (some 52) (.loadI .i64 (.t 51)) <|
  .op (some 53) (.bin .eql (.t 52) (.c (.int .i64 2))) <|
  .nil
def Q78_10 : AT := .q (.op 0 (some 54) (.mv (.t 0)) <|
  .op 1 (some 55) (.nilck (.t 54)) <|
  .op 2 (some 56) (.faddr 1 (.t 55)) <|
  .op 3 (some 57) (.loadS (.t 56)) <|
  .op 4 (some 58) (.mv (.t 9)) <|
  .op 5 (some 59) (.iaddrS 5 (.t 57) (.t 58)) <|
  .op 6 (some 60) (.faddr 0 (.t 59)) <|
  .op 7 (some 61) (.loadI .i64 (.t 60)) <|
  .op 8 (some 62) (.faddr 2 (.t 6)) <|
  .op 9 (some 63) (.loadI .i64 (.t 62)) <|
  .op 10 (some 64) (.bin .add (.t 61) (.t 63)) <|
  .op 11 (some 8) (.mv (.t 64)) <|
  .nil) <|
  .fin
def Q78_11 : Sts := .op (some 65) (.faddr 1 (.t 7)) <|
  .op (some 66) (.loadB (.t 65)) <|
  .nil
def Q78_12 : Sts := .op (some 67) (.mv (.t 0)) <|
  .op (some 68) (.mv (.t 1)) <|
  .op (some 69) (.faddr 0 (.t 7)) <|
  .op (some 70) (.loadI .i64 (.t 69)) <|
  .op (some 71) (.mv (.t 8)) <|
  .op (some 72) (.loadA 5 (.t 6)) <|
  .op (some 73) (.faddr 0 (.t 6)) <|
  .op (some 74) (.loadI .i64 (.t 73)) <|
  .op (some 75) (.bin .neq (.t 74) (.c (.int .i64 1))) <|
  .op (some 76) (.call 68 [(.t 67), (.t 68), (.t 70), (.t 71), (.t 72), (.t 75)]) <|
  .nil
def Q78 : RFun := ⟨77, [0, 1, 2, 3, 6, 7, 8, 9], (.seq (.reg Q78_0) (.seq (.reg Q78_1) (.seq (.seq (.reg Q78_2) (.cond (.t 23) (.seq (.reg Q78_3) .ret) .skip)) (.seq (.reg Q78_4) (.seq (.seq (.reg Q78_5) (.cond (.t 32) (.reg Q78_6) (.seq (.any Q78_7) (.seq (.reg Q78_8) (.seq (.reg Q78_9) (.cond (.t 53) (.any Q78_10) .skip)))))) (.seq (.reg Q78_11) (.cond (.t 66) (.reg Q78_12) .skip))))))), []⟩
theorem Q78_ok : compF Try.prog [0, 1, 2, 3, 6, 7, 8, 9] [28, 33, 19, 32, 29, 30, 73] 31 = some Q78 := by kernel_rfl

/- (*lockless/view.Machine).there -/
def Q85_0 : Sts := .op (some 2) (.mv (.c (.bool false))) <|
  .nil
def Q85_1 : Sts := .op (some 3) (.mv (.t 0)) <|
  .op (some 4) (.eqp true (.t 3)) <|
  .op (some 5) (.mv (.t 4)) <|
  .cnd 5 true (
  .op (some 6) (.mv (.t 0)) <|
  .op (some 7) (.nilck (.t 6)) <|
  .op (some 8) (.faddr 5 (.t 7)) <|
  .op (some 9) (.loadS (.t 8)) <|
  .op (some 10) (.len (.t 9)) <|
  .op (some 11) (.bin .gtr (.t 10) (.c (.int .i64 0))) <|
  .nil) 12 (.t 11) <|
  .op (some 2) (.mv (.t 12)) <|
  .nil
def Q85 : RFun := ⟨13, [0, 2], (.seq (.reg Q85_0) (.seq (.reg Q85_1) .ret)), [.tmp 2]⟩
theorem Q85_ok : compF Try.prog [0, 2] [28, 33, 19, 32, 29, 30, 73] 32 = some Q85 := by kernel_rfl

/- (*lockless/view.Machine).place -/
def Q83_0 : Sts := .op (some 6) (.mv (.c (.int .i64 0))) <|
  .nil
def Q83_1 : Sts := .op (some 7) (.mv (.t 0)) <|
  .op (some 8) (.mv (.t 1)) <|
  .op (some 9) (.nilck (.t 7)) <|
  .op (some 10) (.faddr 2 (.t 9)) <|
  .op (some 11) (.iaddrA 3 1 (.t 10) (.t 8)) <|
  .op (some 12) (.loadS (.t 11)) <|
  .op (some 13) (.mv (.t 2)) <|
  .op (some 14) (.call 69 [(.t 12), (.t 13)]) <|
  .op (some 15) (.maxi (.c (.int .i64 0)) (.t 14)) <|
  .op (some 6) (.mv (.t 15)) <|
  .nil
def Q83 : RFun := ⟨16, [0, 1, 2, 6], (.seq (.reg Q83_0) (.seq (.reg Q83_1) .ret)), [.tmp 6]⟩
theorem Q83_ok : compF Try.prog [0, 1, 2, 6] [28, 33, 19, 32, 29, 30, 73] 33 = some Q83 := by kernel_rfl

/- lockless/view.Play$1 -/
def Q90_0 : Sts := .op (some 8) (.loadX (.t 2)) <|
  .op (some 9) (.mv (.t 0)) <|
  .op (some 10) (.call 22 [(.t 8), (.t 9)]) <|
  .op (some 7) (.mv (.t 10)) <|
  .op (some 11) (.extract 0 (.t 7)) <|
  .op (some 12) (.extract 1 (.t 7)) <|
  .op (some 5) (.mv (.t 11)) <|
  .op (some 6) (.mv (.t 12)) <|
  .nil
def Q90_1 : Sts := .op (some 13) (.mv (.t 6)) <|
  .op (some 14) (.bin .eql (.t 13) (.c (.int .i64 0))) <|
  .nil
def Q90_2 : AT := .q (.op 0 (some 15) (.loadX (.t 2)) <|
  .op 1 (some 16) (.mv (.t 0)) <|
  .op 2 (some 17) (.mv (.t 1)) <|
  .op 3 (some 18) (.mv (.t 5)) <|
  .nil) <|
  .s 4 (some 19) (.callv (.t 17) [(.t 18)]) false (
  .q (.nil) <|
  .s 5 (some 20) (.call 11 [(.t 15), (.t 16), (.t 19)]) true (
  .q (.nil) <|
  .fin) <|
  .no) <|
  .no
def Q90 : RFun := ⟨21, [0, 1, 2, 5, 6], (.seq (.reg Q90_0) (.seq (.reg Q90_1) (.cond (.t 14) (.any Q90_2) .skip))), []⟩
theorem Q90_ok : compF Try.prog [0, 1, 2, 5, 6] [28, 33, 19, 32, 29, 30, 73] 34 = some Q90 := by kernel_rfl

/- lockless/view.Play$2 -/
def Q91_0 : Sts := .op (some 3) (.mv (.c (.int .i64 0))) <|
  .nil
def Q91_1 : Sts := .op (some 4) (.iaddrA 2 1 (.t 1) (.c (.int .i64 1))) <|
  .op (some 5) (.loadI .i64 (.t 4)) <|
  .op (some 6) (.mv (.t 0)) <|
  .op (some 7) (.bin .rem (.t 5) (.t 6)) <|
  .op (some 8) (.mv (.t 0)) <|
  .op (some 9) (.bin .add (.t 7) (.t 8)) <|
  .op (some 10) (.mv (.t 0)) <|
  .op (some 11) (.bin .rem (.t 9) (.t 10)) <|
  .op (some 3) (.mv (.t 11)) <|
  .nil
def Q91 : RFun := ⟨12, [0, 1, 3], (.seq (.reg Q91_0) (.seq (.reg Q91_1) .ret)), [.tmp 3]⟩
theorem Q91_ok : compF Try.prog [0, 1, 3] [28, 33, 19, 32, 29, 30, 73] 35 = some Q91 := by kernel_rfl

/- (*lockless/view.Machine).left -/
def Q81_0 : Sts := .op (some 2) (.mv (.c (.slice none 0 0))) <|
  .nil
def Q81_1 : Sts := .op (some 3) (.mv (.c (.slice none 0 0))) <|
  .nil
def Q81_2 : Sts := .op (some 6) (.mv (.t 0)) <|
  .op (some 7) (.nilck (.t 6)) <|
  .op (some 8) (.faddr 5 (.t 7)) <|
  .op (some 9) (.loadS (.t 8)) <|
  .op (some 10) (.len (.t 9)) <|
  .op (some 11) (.mv (.c (.int .i64 0))) <|
  .nil
def Q81_3 : Sts := .op (some 12) (.bin .lss (.t 11) (.t 10)) <|
  .nil
def Q81_4 : Sts := .op (some 13) (.mv (.t 11)) <|
  .op (some 14) (.iaddrS 11 (.t 9) (.t 11)) <|
  .op (some 15) (.loadA 11 (.t 14)) <|
  .op (some 5) (.alloc 69 [(.int .i64 0), (.int .i64 0), (.int .i64 0), (.int .i64 0), (.int .i64 0), (.int .i64 0), (.int .i64 0), (.int .i64 0), (.int .i64 0), (.slice none 0 0), (.int .i64 0)]) <|
  .op (some 4) (.mv (.t 13)) <|
  .op none (.store 11 (.t 5) (.t 15)) <|
  .nil
def Q81_5 : AT := .q (.op 0 (some 16) (.mv (.t 3)) <|
  .op 1 (some 17) (.mv (.t 0)) <|
  .op 2 (some 18) (.nilck (.t 17)) <|
  .op 3 (some 19) (.faddr 0 (.t 18)) <|
  .op 4 (some 20) (.loadS (.t 19)) <|
  .op 5 (some 21) (.mv (.t 4)) <|
  .op 6 (some 22) (.iaddrS 1 (.t 20) (.t 21)) <|
  .op 7 (some 23) (.loadS (.t 22)) <|
  .op 8 (some 24) (.len (.t 23)) <|
  .op 9 (some 25) (.faddr 10 (.t 5)) <|
  .op 10 (some 26) (.loadI .i64 (.t 25)) <|
  .op 11 (some 27) (.bin .sub (.t 24) (.t 26)) <|
  .nil) <|
  .s 12 (some 28) (.buildSl 3 1 [(.int .i64 0)] [(0, 1, (.t 27))]) false (
  .q (.nil) <|
  .s 13 (some 29) (.append 3 1 8 [(.int .i64 0)] (.t 16) (.t 28)) true (
  .q (.op 14 (some 3) (.mv (.t 29)) <|
  .nil) <|
  .fin) <|
  .no) <|
  .no
def Q81_6 : Sts := .op (some 30) (.bin .add (.t 11) (.c (.int .i64 1))) <|
  .op (some 11) (.mv (.t 30)) <|
  .nil
def Q81_L7 : RCode := (.seq (.reg Q81_3) (.seq (.cond (.t 12) .skip (.exit 0)) (.seq (.block 1 (.seq (.reg Q81_4) (.any Q81_5))) (.reg Q81_6))))
def Q81_7 : Sts := .op (some 31) (.mv (.t 3)) <|
  .op (some 2) (.mv (.t 31)) <|
  .nil
def Q81 : RFun := ⟨32, [0, 2, 3, 4, 5, 9, 10, 11], (.seq (.reg Q81_0) (.seq (.reg Q81_1) (.seq (.seq (.reg Q81_2) (.block 0 (.loop Q81_L7))) (.seq (.reg Q81_7) .ret)))), [.tmp 2]⟩
theorem Q81_ok : compF Try.prog [0, 2, 3, 4, 5, 9, 10, 11] [28, 33, 19, 32, 29, 30, 73] 36 = some Q81 := by kernel_rfl

/- lockless/view.Play$3 -/
def Q92_0 : Sts := .op (some 2) (.mv (.c (.int .i64 0))) <|
  .nil
def Q92_1 : Sts := .op (some 3) (.mv (.t 0)) <|
  .op (some 4) (.bin .sub (.t 3) (.c (.int .i64 1))) <|
  .op (some 2) (.mv (.t 4)) <|
  .nil
def Q92 : RFun := ⟨5, [0, 2], (.seq (.reg Q92_0) (.seq (.reg Q92_1) .ret)), [.tmp 2]⟩
theorem Q92_ok : compF Try.prog [0, 2] [28, 33, 19, 32, 29, 30, 73] 37 = some Q92 := by kernel_rfl

/- (*lockless/view.Machine).outcome -/
def Q82_0 : Sts := .op (some 2) (.mv (.c (.slice none 0 0))) <|
  .nil
def Q82_1 : Sts := .op (some 3) (.mv (.c (.slice none 0 0))) <|
  .nil
def Q82_2 : Sts := .op (some 8) (.mv (.t 0)) <|
  .op (some 9) (.nilck (.t 8)) <|
  .op (some 10) (.faddr 5 (.t 9)) <|
  .op (some 11) (.loadS (.t 10)) <|
  .op (some 12) (.len (.t 11)) <|
  .op (some 13) (.mv (.c (.int .i64 0))) <|
  .nil
def Q82_3 : Sts := .op (some 14) (.bin .lss (.t 13) (.t 12)) <|
  .nil
def Q82_4 : Sts := .op (some 15) (.iaddrS 11 (.t 11) (.t 13)) <|
  .op (some 16) (.loadA 11 (.t 15)) <|
  .op (some 5) (.alloc 69 [(.int .i64 0), (.int .i64 0), (.int .i64 0), (.int .i64 0), (.int .i64 0), (.int .i64 0), (.int .i64 0), (.int .i64 0), (.int .i64 0), (.slice none 0 0), (.int .i64 0)]) <|
  .op none (.store 11 (.t 5) (.t 16)) <|
  .nil
def Q82_5 : Sts := .op (some 17) (.mv (.t 3)) <|
  .op (some 18) (.faddr 9 (.t 5)) <|
  .op (some 19) (.loadS (.t 18)) <|
  .op (some 20) (.append 3 1 8 [(.int .i64 0)] (.t 17) (.t 19)) <|
  .op (some 3) (.mv (.t 20)) <|
  .nil
def Q82_6 : Sts := .op (some 21) (.bin .add (.t 13) (.c (.int .i64 1))) <|
  .op (some 13) (.mv (.t 21)) <|
  .nil
def Q82_L7 : RCode := (.seq (.reg Q82_3) (.seq (.cond (.t 14) .skip (.exit 0)) (.seq (.block 1 (.seq (.reg Q82_4) (.reg Q82_5))) (.reg Q82_6))))
def Q82_7 : Sts := .op (some 22) (.mv (.t 0)) <|
  .op (some 23) (.nilck (.t 22)) <|
  .op (some 24) (.faddr 2 (.t 23)) <|
  .op (some 25) (.loadA 3 (.t 24)) <|
  .op (some 26) (.mv (.c (.int .i64 0))) <|
  .nil
def Q82_8 : Sts := .op (some 27) (.bin .lss (.t 26) (.c (.int .i64 3))) <|
  .nil
def Q82_9 : Sts := .op (some 28) (.idx1 3 (.t 25) (.t 26)) <|
  .op (some 7) (.mv (.t 28)) <|
  .nil
def Q82_10 : AT := .q (.op 0 (some 29) (.mv (.t 3)) <|
  .op 1 (some 30) (.mv (.t 0)) <|
  .op 2 (some 31) (.nilck (.t 30)) <|
  .op 3 (some 32) (.faddr 1 (.t 31)) <|
  .op 4 (some 33) (.loadS (.t 32)) <|
  .op 5 (some 34) (.mv (.t 7)) <|
  .op 6 (some 35) (.mv (.t 7)) <|
  .op 7 (some 36) (.len (.t 35)) <|
  .op 8 (some 37) (.bin .sub (.t 36) (.c (.int .i64 1))) <|
  .op 9 (some 38) (.iaddrS 1 (.t 34) (.t 37)) <|
  .op 10 (some 39) (.loadI .i64 (.t 38)) <|
  .op 11 (some 40) (.iaddrS 5 (.t 33) (.t 39)) <|
  .op 12 (some 41) (.faddr 0 (.t 40)) <|
  .op 13 (some 42) (.loadI .i64 (.t 41)) <|
  .nil) <|
  .s 14 (some 43) (.buildSl 3 1 [(.int .i64 0)] [(0, 1, (.t 42))]) false (
  .q (.nil) <|
  .s 15 (some 44) (.append 3 1 8 [(.int .i64 0)] (.t 29) (.t 43)) true (
  .q (.op 16 (some 3) (.mv (.t 44)) <|
  .nil) <|
  .fin) <|
  .no) <|
  .no
def Q82_11 : Sts := .op (some 45) (.bin .add (.t 26) (.c (.int .i64 1))) <|
  .op (some 26) (.mv (.t 45)) <|
  .nil
def Q82_L12 : RCode := (.seq (.reg Q82_8) (.seq (.cond (.t 27) .skip (.exit 2)) (.seq (.block 3 (.seq (.reg Q82_9) (.any Q82_10))) (.reg Q82_11))))
def Q82_12 : Sts := .op (some 46) (.mv (.t 3)) <|
  .op (some 2) (.mv (.t 46)) <|
  .nil
def Q82 : RFun := ⟨47, [0, 2, 3, 5, 7, 11, 12, 13, 25, 26], (.seq (.reg Q82_0) (.seq (.reg Q82_1) (.seq (.seq (.reg Q82_2) (.block 0 (.loop Q82_L7))) (.seq (.seq (.reg Q82_7) (.block 2 (.loop Q82_L12))) (.seq (.reg Q82_12) .ret))))), [.tmp 2]⟩
theorem Q82_ok : compF Try.prog [0, 2, 3, 5, 7, 11, 12, 13, 25, 26] [28, 33, 19, 32, 29, 30, 73] 38 = some Q82 := by kernel_rfl

/- (*lockless/locklessref05.Machine).Choices -/
def Q28_0 : Sts := .op (some 4) (.mv (.c (.int .i64 0))) <|
  .op (some 5) (.mv (.c (.int .i64 0))) <|
  .nil
def Q28_1 : Sts := .op (some 6) (.mv (.t 0)) <|
  .op (some 7) (.mv (.t 1)) <|
  .op (some 8) (.call 70 [(.t 6), (.t 7)]) <|
  .op (some 9) (.notb (.t 8)) <|
  .nil
def Q28_2 : Sts := .op (some 4) (.mv (.c (.int .i64 0))) <|
  .op (some 5) (.mv (.c (.int .i64 1))) <|
  .nil
def Q28_3 : AT := .q (.op 0 (some 10) (.mv (.t 0)) <|
  .op 1 (some 11) (.nilck (.t 10)) <|
  .op 2 (some 12) (.faddr 1 (.t 11)) <|
  .op 3 (some 13) (.loadS (.t 12)) <|
  .op 4 (some 14) (.mv (.t 1)) <|
  .op 5 (some 15) (.iaddrS 1 (.t 13) (.t 14)) <|
  .op 6 (some 16) (.loadI .i64 (.t 15)) <|
  .op 7 (some 17) (.mv (.t 0)) <|
  .op 8 (some 18) (.nilck (.t 17)) <|
  .op 9 (some 19) (.faddr 0 (.t 18)) <|
  .op 10 (some 20) (.faddr 0 (.t 19)) <|
  .op 11 (some 21) (.loadS (.t 20)) <|
  .op 12 (some 22) (.mv (.t 1)) <|
  .op 13 (some 23) (.iaddrS 1 (.t 21) (.t 22)) <|
  .op 14 (some 24) (.loadS (.t 23)) <|
  .op 15 (some 25) (.len (.t 24)) <|
  .op 16 (some 26) (.bin .eql (.t 16) (.t 25)) <|
  .nil) <|
  .fin
def Q28_4 : Sts := .op (some 4) (.mv (.c (.int .i64 0))) <|
  .op (some 5) (.mv (.c (.int .i64 7))) <|
  .nil
def Q28_5 : Sts := .op (some 27) (.mv (.t 0)) <|
  .op (some 28) (.mv (.t 1)) <|
  .op (some 29) (.call 48 [(.t 27), (.t 28)]) <|
  .op (some 30) (.len (.t 29)) <|
  .op (some 4) (.mv (.t 30)) <|
  .op (some 5) (.mv (.c (.int .i64 0))) <|
  .nil
def Q28 : RFun := ⟨31, [0, 1, 4, 5], (.seq (.reg Q28_0) (.seq (.seq (.reg Q28_1) (.cond (.t 9) (.seq (.reg Q28_2) .ret) .skip)) (.seq (.seq (.any Q28_3) (.cond (.t 26) (.seq (.reg Q28_4) .ret) .skip)) (.seq (.reg Q28_5) .ret)))), [.tmp 4, .tmp 5]⟩
theorem Q28_ok : compF Try.prog [0, 1, 4, 5] [28, 33, 19, 32, 29, 30, 73] 39 = some Q28 := by kernel_rfl

/- lockless/locklessref01.Mod -/
def Q19_0 : Sts := .op (some 4) (.mv (.c (.int .i64 0))) <|
  .nil
def Q19_1 : Sts := .op (some 6) (.mv (.t 0)) <|
  .op (some 7) (.mv (.t 1)) <|
  .op (some 8) (.bin .rem (.t 6) (.t 7)) <|
  .op (some 5) (.mv (.t 8)) <|
  .nil
def Q19_2 : Sts := .op (some 9) (.mv (.t 5)) <|
  .op (some 10) (.bin .lss (.t 9) (.c (.int .i64 0))) <|
  .nil
def Q19_3 : Sts := .op (some 11) (.mv (.t 5)) <|
  .op (some 12) (.mv (.t 1)) <|
  .op (some 13) (.bin .add (.t 11) (.t 12)) <|
  .op (some 5) (.mv (.t 13)) <|
  .nil
def Q19_4 : Sts := .op (some 14) (.mv (.t 5)) <|
  .op (some 4) (.mv (.t 14)) <|
  .nil
def Q19 : RFun := ⟨15, [0, 1, 4, 5], (.seq (.reg Q19_0) (.seq (.reg Q19_1) (.seq (.seq (.reg Q19_2) (.cond (.t 10) (.reg Q19_3) .skip)) (.seq (.reg Q19_4) .ret)))), [.tmp 4]⟩
theorem Q19_ok : compF Try.prog [0, 1, 4, 5] [28, 33, 19, 32, 29, 30, 73] 40 = some Q19 := by kernel_rfl

/- (*lockless/locklessref05.Machine).Outcome -/
def Q30_0 : Sts := .op (some 2) (.mv (.c (.slice none 0 0))) <|
  .op (some 3) (.mv (.c (.int .i64 0))) <|
  .nil
def Q30_1 : Sts := .op (some 7) (.mv (.t 0)) <|
  .op (some 8) (.eqp false (.t 7)) <|
  .op (some 9) (.mv (.t 8)) <|
  .cnd 9 false (
  .op (some 10) (.mv (.t 0)) <|
  .op (some 11) (.nilck (.t 10)) <|
  .op (some 12) (.faddr 3 (.t 11)) <|
  .op (some 13) (.loadS (.t 12)) <|
  .op (some 14) (.len (.t 13)) <|
  .op (some 15) (.bin .eql (.t 14) (.c (.int .i64 0))) <|
  .nil) 16 (.t 15) <|
  .nil
def Q30_2 : Sts := .op (some 2) (.mv (.c (.slice none 0 0))) <|
  .op (some 3) (.mv (.c (.int .i64 1))) <|
  .nil
def Q30_3 : Sts := .op (some 17) (.mv (.t 0)) <|
  .op (some 18) (.call 44 [(.t 17)]) <|
  .op (some 19) (.notb (.t 18)) <|
  .nil
def Q30_4 : Sts := .op (some 2) (.mv (.c (.slice none 0 0))) <|
  .op (some 3) (.mv (.c (.int .i64 7))) <|
  .nil
def Q30_5 : Sts := .op (some 4) (.mv (.c (.slice none 0 0))) <|
  .nil
def Q30_6 : Sts := .op (some 5) (.mv (.c (.int .i64 0))) <|
  .nil
def Q30_7 : Sts := .op (some 20) (.mv (.t 5)) <|
  .op (some 21) (.mv (.t 0)) <|
  .op (some 22) (.nilck (.t 21)) <|
  .op (some 23) (.faddr 2 (.t 22)) <|
  .op (some 24) (.loadS (.t 23)) <|
  .op (some 25) (.len (.t 24)) <|
  .op (some 26) (.bin .lss (.t 20) (.t 25)) <|
  .nil
def Q30_8 : Sts := .op (some 29) (.mv (.t 4)) <|
  .op (some 30) (.mv (.t 0)) <|
  .op (some 31) (.nilck (.t 30)) <|
  .op (some 32) (.faddr 2 (.t 31)) <|
  .op (some 33) (.loadS (.t 32)) <|
  .op (some 34) (.mv (.t 5)) <|
  .op (some 35) (.iaddrS 1 (.t 33) (.t 34)) <|
  .op (some 36) (.loadS (.t 35)) <|
  .op (some 37) (.append 3 1 8 [(.int .i64 0)] (.t 29) (.t 36)) <|
  .op (some 4) (.mv (.t 37)) <|
  .nil
def Q30_9 : Sts := .op (some 27) (.mv (.t 5)) <|
  .op (some 28) (.bin .add (.t 27) (.c (.int .i64 1))) <|
  .op (some 5) (.mv (.t 28)) <|
  .nil
def Q30_L10 : RCode := (.seq (.seq (.reg Q30_7) (.cond (.t 26) .skip (.exit 0))) (.seq (.block 1 (.reg Q30_8)) (.reg Q30_9)))
def Q30_10 : Sts := .op (some 6) (.mv (.c (.int .i64 0))) <|
  .nil
def Q30_11 : Sts := .op (some 38) (.mv (.t 6)) <|
  .op (some 39) (.bin .lss (.t 38) (.c (.int .i64 3))) <|
  .nil
def Q30_12 : AT := .q (.op 0 (some 42) (.mv (.t 4)) <|
  .op 1 (some 43) (.mv (.t 0)) <|
  .op 2 (some 44) (.nilck (.t 43)) <|
  .op 3 (some 45) (.faddr 3 (.t 44)) <|
  .op 4 (some 46) (.loadS (.t 45)) <|
  .op 5 (some 47) (.mv (.t 6)) <|
  .op 6 (some 48) (.iaddrS 1 (.t 46) (.t 47)) <|
  .op 7 (some 49) (.loadS (.t 48)) <|
  .op 8 (some 50) (.mv (.t 0)) <|
  .op 9 (some 51) (.nilck (.t 50)) <|
  .op 10 (some 52) (.faddr 3 (.t 51)) <|
  .op 11 (some 53) (.loadS (.t 52)) <|
  .op 12 (some 54) (.mv (.t 6)) <|
  .op 13 (some 55) (.iaddrS 1 (.t 53) (.t 54)) <|
  .op 14 (some 56) (.loadS (.t 55)) <|
  .op 15 (some 57) (.len (.t 56)) <|
  .op 16 (some 58) (.bin .sub (.t 57) (.c (.int .i64 1))) <|
  .op 17 (some 59) (.iaddrS 4 (.t 49) (.t 58)) <|
  .op 18 (some 60) (.faddr 1 (.t 59)) <|
  .op 19 (some 61) (.loadI .i64 (.t 60)) <|
  .nil) <|
  .s 20 (some 62) (.buildSl 3 1 [(.int .i64 0)] [(0, 1, (.t 61))]) false (
  .q (.nil) <|
  .s 21 (some 63) (.append 3 1 8 [(.int .i64 0)] (.t 42) (.t 62)) true (
  .q (.op 22 (some 4) (.mv (.t 63)) <|
  .nil) <|
  .fin) <|
  .no) <|
  .no
def Q30_13 : Sts := .op (some 40) (.mv (.t 6)) <|
  .op (some 41) (.bin .add (.t 40) (.c (.int .i64 1))) <|
  .op (some 6) (.mv (.t 41)) <|
  .nil
def Q30_L14 : RCode := (.seq (.seq (.reg Q30_11) (.cond (.t 39) .skip (.exit 2))) (.seq (.block 3 (.any Q30_12)) (.reg Q30_13)))
def Q30_14 : Sts := .op (some 64) (.mv (.t 4)) <|
  .op (some 2) (.mv (.t 64)) <|
  .op (some 3) (.mv (.c (.int .i64 0))) <|
  .nil
def Q30 : RFun := ⟨65, [0, 2, 3, 4, 5, 6], (.seq (.reg Q30_0) (.seq (.seq (.reg Q30_1) (.cond (.t 16) (.seq (.reg Q30_2) .ret) .skip)) (.seq (.seq (.reg Q30_3) (.cond (.t 19) (.seq (.reg Q30_4) .ret) .skip)) (.seq (.reg Q30_5) (.seq (.seq (.reg Q30_6) (.block 0 (.loop Q30_L10))) (.seq (.seq (.reg Q30_10) (.block 2 (.loop Q30_L14))) (.seq (.reg Q30_14) .ret))))))), [.tmp 2, .tmp 3]⟩
theorem Q30_ok : compF Try.prog [0, 2, 3, 4, 5, 6] [28, 33, 19, 32, 29, 30, 73] 41 = some Q30 := by kernel_rfl

/- lockless/locklessref03.Expand -/
def Q21_0 : Sts := .op (some 1) (.box 24 (.t 0)) <|
  .op (some 2) (.alloc 24 [(.slice none 0 0)]) <|
  .op (some 3) (.mv (.c (.int .i64 0))) <|
  .nil
def Q21_1 : Sts := .op (some 11) (.loadA 1 (.t 1)) <|
  .op (some 12) (.call 71 [(.t 11)]) <|
  .op (some 4) (.mv (.t 12)) <|
  .nil
def Q21_2 : Sts := .op (some 13) (.mv (.t 4)) <|
  .op (some 14) (.bin .neq (.t 13) (.c (.int .i64 0))) <|
  .nil
def Q21_3 : Sts := .op (some 15) (.build [(.slice none 0 0)] []) <|
  .op (some 16) (.mv (.t 4)) <|
  .op none (.store 1 (.t 2) (.t 15)) <|
  .op (some 3) (.mv (.t 16)) <|
  .nil
def Q21_4 : Sts := .op (some 5) (.alloc 24 [(.slice none 0 0)]) <|
  .nil
def Q21_5 : Sts := .op (some 17) (.build [(.int .i64 0), (.int .i64 0), (.int .i64 0), (.int .i64 0), (.int .i64 0)] [(0, 1, (.c (.int .i64 5))), (4, 1, (.c (.int .i64 4)))]) <|
  .op (some 6) (.alloc 55 [(.int .i64 0), (.int .i64 0), (.int .i64 0), (.int .i64 0), (.int .i64 0)]) <|
  .op none (.store 5 (.t 6) (.t 17)) <|
  .nil
def Q21_6 : Sts := .op (some 7) (.mv (.c (.int .i64 0))) <|
  .nil
def Q21_7 : Sts := .op (some 18) (.mv (.t 7)) <|
  .op (some 19) (.faddr 0 (.t 1)) <|
  .op (some 20) (.loadS (.t 19)) <|
  .op (some 21) (.len (.t 20)) <|
  .op (some 22) (.bin .lss (.t 18) (.t 21)) <|
  .nil
def Q21_8 : Sts := .op (some 8) (.mv (.c (.slice none 0 0))) <|
  .nil
def Q21_9 : Sts := .op (some 9) (.mv (.c (.int .i64 0))) <|
  .nil
def Q21_10 : Sts := .op (some 25) (.mv (.t 9)) <|
  .op (some 26) (.faddr 0 (.t 1)) <|
  .op (some 27) (.loadS (.t 26)) <|
  .op (some 28) (.mv (.t 7)) <|
  .op (some 29) (.iaddrS 1 (.t 27) (.t 28)) <|
  .op (some 30) (.loadS (.t 29)) <|
  .op (some 31) (.len (.t 30)) <|
  .op (some 32) (.bin .lss (.t 25) (.t 31)) <|
  .nil
def Q21_11 : Sts := .op (some 35) (.faddr 0 (.t 1)) <|
  .op (some 36) (.loadS (.t 35)) <|
  .op (some 37) (.mv (.t 7)) <|
  .op (some 38) (.iaddrS 1 (.t 36) (.t 37)) <|
  .op (some 39) (.loadS (.t 38)) <|
  .op (some 40) (.mv (.t 9)) <|
  .op (some 41) (.iaddrS 5 (.t 39) (.t 40)) <|
  .op (some 42) (.loadA 5 (.t 41)) <|
  .op (some 10) (.alloc 55 [(.int .i64 0), (.int .i64 0), (.int .i64 0), (.int .i64 0), (.int .i64 0)]) <|
  .op none (.store 5 (.t 10) (.t 42)) <|
  .nil
def Q21_12 : Sts := .op (some 43) (.faddr 0 (.t 10)) <|
  .op (some 44) (.loadI .i64 (.t 43)) <|
  .op (some 45) (.bin .eql (.t 44) (.c (.int .i64 5))) <|
  .op (some 46) (.mv (.t 45)) <|
  .cnd 46 false (
  .op (some 47) (.faddr 4 (.t 10)) <|
  .op (some 48) (.loadI .i64 (.t 47)) <|
  .op (some 49) (.bin .neq (.t 48) (.c (.int .i64 4))) <|
  .nil) 50 (.t 49) <|
  .nil
def Q21_13 : Sts := .op (some 51) (.mv (.t 8)) <|
  .op (some 52) (.loadA 5 (.t 10)) <|
  .op (some 53) (.buildSl 55 1 [(.int .i64 0), (.int .i64 0), (.int .i64 0), (.int .i64 0), (.int .i64 0)] [(0, 5, (.t 52))]) <|
  .op (some 54) (.append 55 5 40 [(.int .i64 0), (.int .i64 0), (.int .i64 0), (.int .i64 0), (.int .i64 0)] (.t 51) (.t 53)) <|
  .op (some 8) (.mv (.t 54)) <|
  .nil
def Q21_14 : Sts := .op (some 55) (.loadA 5 (.t 10)) <|
  .op (some 56) (.call 72 [(.t 55)]) <|
  .op (some 57) (.faddr 4 (.t 10)) <|
  .op none (.store 1 (.t 57) (.t 56)) <|
  .nil
def Q21_15 : Sts := .op (some 58) (.mv (.t 8)) <|
  .op (some 59) (.loadA 5 (.t 6)) <|
  .op (some 60) (.loadA 5 (.t 10)) <|
  .op (some 61) (.loadA 5 (.t 6)) <|
  .op (some 62) (.buildSl 55 3 [(.int .i64 0), (.int .i64 0), (.int .i64 0), (.int .i64 0), (.int .i64 0), (.int .i64 0), (.int .i64 0), (.int .i64 0), (.int .i64 0), (.int .i64 0), (.int .i64 0), (.int .i64 0), (.int .i64 0), (.int .i64 0), (.int .i64 0)] [(0, 5, (.t 59)), (5, 5, (.t 60)), (10, 5, (.t 61))]) <|
  .op (some 63) (.append 55 5 40 [(.int .i64 0), (.int .i64 0), (.int .i64 0), (.int .i64 0), (.int .i64 0)] (.t 58) (.t 62)) <|
  .op (some 8) (.mv (.t 63)) <|
  .nil
def Q21_16 : Sts := .op (some 33) (.mv (.t 9)) <|
  .op (some 34) (.bin .add (.t 33) (.c (.int .i64 1))) <|
  .op (some 9) (.mv (.t 34)) <|
  .nil
def Q21_L17 : RCode := (.seq (.seq (.reg Q21_10) (.cond (.t 32) .skip (.exit 2))) (.seq (.block 3 (.seq (.reg Q21_11) (.seq (.seq (.reg Q21_12) (.cond (.t 50) (.seq (.reg Q21_13) (.exit 3)) .skip)) (.seq (.reg Q21_14) (.reg Q21_15))))) (.reg Q21_16)))
def Q21_17 : Sts := .op (some 64) (.faddr 0 (.t 5)) <|
  .op (some 65) (.loadS (.t 64)) <|
  .op (some 66) (.mv (.t 8)) <|
  .op (some 67) (.buildSl 53 1 [(.slice none 0 0)] [(0, 1, (.t 66))]) <|
  .op (some 68) (.append 53 1 24 [(.slice none 0 0)] (.t 65) (.t 67)) <|
  .op (some 69) (.faddr 0 (.t 5)) <|
  .op none (.store 1 (.t 69) (.t 68)) <|
  .nil
def Q21_18 : Sts := .op (some 23) (.mv (.t 7)) <|
  .op (some 24) (.bin .add (.t 23) (.c (.int .i64 1))) <|
  .op (some 7) (.mv (.t 24)) <|
  .nil
def Q21_L19 : RCode := (.seq (.seq (.reg Q21_7) (.cond (.t 22) .skip (.exit 0))) (.seq (.block 1 (.seq (.reg Q21_8) (.seq (.seq (.reg Q21_9) (.block 2 (.loop Q21_L17))) (.reg Q21_17)))) (.reg Q21_18)))
def Q21_19 : Sts := .op (some 70) (.loadA 1 (.t 5)) <|
  .op none (.store 1 (.t 2) (.t 70)) <|
  .op (some 3) (.mv (.c (.int .i64 0))) <|
  .nil
def Q21 : RFun := ⟨71, [0, 1, 2, 3, 4, 5, 6, 7, 8, 9, 10], (.seq (.reg Q21_0) (.seq (.seq (.reg Q21_1) (.seq (.reg Q21_2) (.cond (.t 14) (.seq (.reg Q21_3) .ret) .skip))) (.seq (.reg Q21_4) (.seq (.reg Q21_5) (.seq (.seq (.reg Q21_6) (.block 0 (.loop Q21_L19))) (.seq (.reg Q21_19) .ret)))))), [.cellA 2 1, .tmp 3]⟩
theorem Q21_ok : compF Try.prog [0, 1, 2, 3, 4, 5, 6, 7, 8, 9, 10] [28, 33, 19, 32, 29, 30, 73] 42 = some Q21 := by kernel_rfl

/- lockless/locklessref05.nothing -/
def Q46_0 : Sts := .op (some 0) (.mv (.c (.slice none 0 0))) <|
  .nil
def Q46_1 : Sts := .op (some 1) (.buildSl 3 3 [(.int .i64 0), (.int .i64 0), (.int .i64 0)] [(0, 1, (.c (.int .i64 (-1)))), (1, 1, (.c (.int .i64 (-1)))), (2, 1, (.c (.int .i64 (-1))))]) <|
  .op (some 0) (.mv (.t 1)) <|
  .nil
def Q46 : RFun := ⟨2, [0], (.seq (.reg Q46_0) (.seq (.reg Q46_1) .ret)), [.tmp 0]⟩
theorem Q46_ok : compF Try.prog [0] [28, 33, 19, 32, 29, 30, 73] 43 = some Q46 := by kernel_rfl

/- (*lockless/locklessref05.Machine).Over -/
def Q31_0 : Sts := .op (some 2) (.mv (.c (.bool false))) <|
  .nil
def Q31_1 : Sts := .op (some 4) (.mv (.t 0)) <|
  .op (some 5) (.eqp false (.t 4)) <|
  .nil
def Q31_2 : Sts := .op (some 2) (.mv (.c (.bool true))) <|
  .nil
def Q31_3 : Sts := .op (some 3) (.mv (.c (.int .i64 0))) <|
  .nil
def Q31_4 : Sts := .op (some 6) (.mv (.t 3)) <|
  .op (some 7) (.mv (.t 0)) <|
  .op (some 8) (.nilck (.t 7)) <|
  .op (some 9) (.faddr 1 (.t 8)) <|
  .op (some 10) (.loadS (.t 9)) <|
  .op (some 11) (.len (.t 10)) <|
  .op (some 12) (.bin .lss (.t 6) (.t 11)) <|
  .nil
def Q31_5 : AT := .q (.op 0 (some 15) (.mv (.t 0)) <|
  .op 1 (some 16) (.nilck (.t 15)) <|
  .op 2 (some 17) (.faddr 1 (.t 16)) <|
  .op 3 (some 18) (.loadS (.t 17)) <|
  .op 4 (some 19) (.mv (.t 3)) <|
  .op 5 (some 20) (.iaddrS 1 (.t 18) (.t 19)) <|
  .op 6 (some 21) (.loadI .i64 (.t 20)) <|
  .op 7 (some 22) (.mv (.t 0)) <|
  .op 8 (some 23) (.nilck (.t 22)) <|
  .op 9 (some 24) (.faddr 0 (.t 23)) <|
  .op 10 (some 25) (.faddr 0 (.t 24)) <|
  .op 11 (some 26) (.loadS (.t 25)) <|
  .op 12 (some 27) (.mv (.t 3)) <|
  .op 13 (some 28) (.iaddrS 1 (.t 26) (.t 27)) <|
  .op 14 (some 29) (.loadS (.t 28)) <|
  .op 15 (some 30) (.len (.t 29)) <|
  .op 16 (some 31) (.bin .lss (.t 21) (.t 30)) <|
  .nil) <|
  .fin
def Q31_6 : Sts := .op (some 2) (.mv (.c (.bool false))) <|
  .nil
def Q31_7 : Sts := .op (some 13) (.mv (.t 3)) <|
  .op (some 14) (.bin .add (.t 13) (.c (.int .i64 1))) <|
  .op (some 3) (.mv (.t 14)) <|
  .nil
def Q31_L8 : RCode := (.seq (.seq (.reg Q31_4) (.cond (.t 12) .skip (.exit 0))) (.seq (.block 1 (.seq (.any Q31_5) (.cond (.t 31) (.seq (.reg Q31_6) .ret) .skip))) (.reg Q31_7)))
def Q31_8 : Sts := .op (some 2) (.mv (.c (.bool true))) <|
  .nil
def Q31 : RFun := ⟨32, [0, 2, 3], (.seq (.reg Q31_0) (.seq (.seq (.reg Q31_1) (.cond (.t 5) (.seq (.reg Q31_2) .ret) .skip)) (.seq (.seq (.reg Q31_3) (.block 0 (.loop Q31_L8))) (.seq (.reg Q31_8) .ret)))), [.tmp 2]⟩
theorem Q31_ok : compF Try.prog [0, 2, 3] [28, 33, 19, 32, 29, 30, 73] 44 = some Q31 := by kernel_rfl

/- (*lockless/locklessref05.Machine).Left -/
def Q29_0 : Sts := .op (some 4) (.mv (.c (.int .i64 0))) <|
  .op (some 5) (.mv (.c (.int .i64 0))) <|
  .nil
def Q29_1 : Sts := .op (some 6) (.mv (.t 0)) <|
  .op (some 7) (.mv (.t 1)) <|
  .op (some 8) (.call 70 [(.t 6), (.t 7)]) <|
  .op (some 9) (.notb (.t 8)) <|
  .nil
def Q29_2 : Sts := .op (some 4) (.mv (.c (.int .i64 0))) <|
  .op (some 5) (.mv (.c (.int .i64 1))) <|
  .nil
def Q29_3 : AT := .q (.op 0 (some 10) (.mv (.t 0)) <|
  .op 1 (some 11) (.nilck (.t 10)) <|
  .op 2 (some 12) (.faddr 0 (.t 11)) <|
  .op 3 (some 13) (.faddr 0 (.t 12)) <|
  .op 4 (some 14) (.loadS (.t 13)) <|
  .op 5 (some 15) (.mv (.t 1)) <|
  .op 6 (some 16) (.iaddrS 1 (.t 14) (.t 15)) <|
  .op 7 (some 17) (.loadS (.t 16)) <|
  .op 8 (some 18) (.len (.t 17)) <|
  .op 9 (some 19) (.mv (.t 0)) <|
  .op 10 (some 20) (.nilck (.t 19)) <|
  .op 11 (some 21) (.faddr 1 (.t 20)) <|
  .op 12 (some 22) (.loadS (.t 21)) <|
  .op 13 (some 23) (.mv (.t 1)) <|
  .op 14 (some 24) (.iaddrS 1 (.t 22) (.t 23)) <|
  .op 15 (some 25) (.loadI .i64 (.t 24)) <|
  .op 16 (some 26) (.bin .sub (.t 18) (.t 25)) <|
  .op 17 (some 4) (.mv (.t 26)) <|
  .op 18 (some 5) (.mv (.c (.int .i64 0))) <|
  .nil) <|
  .fin
def Q29 : RFun := ⟨27, [0, 1, 4, 5], (.seq (.reg Q29_0) (.seq (.seq (.reg Q29_1) (.cond (.t 9) (.seq (.reg Q29_2) .ret) .skip)) (.seq (.any Q29_3) .ret))), [.tmp 4, .tmp 5]⟩
theorem Q29_ok : compF Try.prog [0, 1, 4, 5] [28, 33, 19, 32, 29, 30, 73] 45 = some Q29 := by kernel_rfl

/- (*lockless/locklessref05.Machine).Reach -/
def Q32_0 : Sts := .op (some 6) (.mv (.c (.int .i64 0))) <|
  .op (some 7) (.mv (.c (.int .i64 0))) <|
  .nil
def Q32_1 : Sts := .op (some 8) (.mv (.t 0)) <|
  .op (some 9) (.mv (.t 1)) <|
  .op (some 10) (.call 70 [(.t 8), (.t 9)]) <|
  .op (some 11) (.notb (.t 10)) <|
  .op (some 12) (.mv (.t 11)) <|
  .cnd 12 false (
  .op (some 13) (.mv (.t 2)) <|
  .op (some 14) (.bin .lss (.t 13) (.c (.int .i64 0))) <|
  .nil) 15 (.t 14) <|
  .op (some 16) (.mv (.t 15)) <|
  .cnd 16 false (
  .op (some 17) (.mv (.t 2)) <|
  .op (some 18) (.bin .geq (.t 17) (.c (.int .i64 3))) <|
  .nil) 19 (.t 18) <|
  .nil
def Q32_2 : Sts := .op (some 6) (.mv (.c (.int .i64 0))) <|
  .op (some 7) (.mv (.c (.int .i64 1))) <|
  .nil
def Q32_3 : Sts := .op (some 20) (.mv (.t 0)) <|
  .op (some 21) (.mv (.t 2)) <|
  .op (some 22) (.mv (.t 0)) <|
  .op (some 23) (.nilck (.t 22)) <|
  .op (some 24) (.faddr 4 (.t 23)) <|
  .op (some 25) (.loadS (.t 24)) <|
  .op (some 26) (.mv (.t 1)) <|
  .op (some 27) (.iaddrS 1 (.t 25) (.t 26)) <|
  .op (some 28) (.loadS (.t 27)) <|
  .op (some 29) (.mv (.t 2)) <|
  .op (some 30) (.iaddrS 1 (.t 28) (.t 29)) <|
  .op (some 31) (.loadI .i64 (.t 30)) <|
  .op (some 32) (.call 73 [(.t 20), (.t 21), (.t 31)]) <|
  .op (some 6) (.mv (.t 32)) <|
  .op (some 7) (.mv (.c (.int .i64 0))) <|
  .nil
def Q32 : RFun := ⟨33, [0, 1, 2, 6, 7], (.seq (.reg Q32_0) (.seq (.seq (.reg Q32_1) (.cond (.t 19) (.seq (.reg Q32_2) .ret) .skip)) (.seq (.reg Q32_3) .ret))), [.tmp 6, .tmp 7]⟩
theorem Q32_ok : compF Try.prog [0, 1, 2, 6, 7] [28, 33, 19, 32, 29, 30, 73] 46 = some Q32 := by kernel_rfl

/- (*lockless/locklessref05.Machine).Words -/
def Q34_0 : Sts := .op (some 4) (.mv (.c (.slice none 0 0))) <|
  .op (some 5) (.mv (.c (.int .i64 0))) <|
  .nil
def Q34_1 : Sts := .op (some 8) (.mv (.t 0)) <|
  .op (some 9) (.eqp false (.t 8)) <|
  .op (some 10) (.mv (.t 9)) <|
  .cnd 10 false (
  .op (some 11) (.mv (.t 0)) <|
  .op (some 12) (.nilck (.t 11)) <|
  .op (some 13) (.faddr 3 (.t 12)) <|
  .op (some 14) (.loadS (.t 13)) <|
  .op (some 15) (.len (.t 14)) <|
  .op (some 16) (.bin .eql (.t 15) (.c (.int .i64 0))) <|
  .nil) 17 (.t 16) <|
  .op (some 18) (.mv (.t 17)) <|
  .cnd 18 false (
  .op (some 19) (.mv (.t 1)) <|
  .op (some 20) (.bin .lss (.t 19) (.c (.int .i64 0))) <|
  .nil) 21 (.t 20) <|
  .op (some 22) (.mv (.t 21)) <|
  .cnd 22 false (
  .op (some 23) (.mv (.t 1)) <|
  .op (some 24) (.bin .geq (.t 23) (.c (.int .i64 3))) <|
  .nil) 25 (.t 24) <|
  .nil
def Q34_2 : Sts := .op (some 4) (.mv (.c (.slice none 0 0))) <|
  .op (some 5) (.mv (.c (.int .i64 1))) <|
  .nil
def Q34_3 : Sts := .op (some 6) (.mv (.c (.slice none 0 0))) <|
  .nil
def Q34_4 : Sts := .op (some 7) (.mv (.c (.int .i64 0))) <|
  .nil
def Q34_5 : Sts := .op (some 26) (.mv (.t 7)) <|
  .op (some 27) (.mv (.t 0)) <|
  .op (some 28) (.nilck (.t 27)) <|
  .op (some 29) (.faddr 3 (.t 28)) <|
  .op (some 30) (.loadS (.t 29)) <|
  .op (some 31) (.mv (.t 1)) <|
  .op (some 32) (.iaddrS 1 (.t 30) (.t 31)) <|
  .op (some 33) (.loadS (.t 32)) <|
  .op (some 34) (.len (.t 33)) <|
  .op (some 35) (.bin .lss (.t 26) (.t 34)) <|
  .nil
def Q34_6 : Sts := .op (some 38) (.mv (.t 6)) <|
  .op (some 39) (.mv (.t 0)) <|
  .op (some 40) (.nilck (.t 39)) <|
  .op (some 41) (.faddr 3 (.t 40)) <|
  .op (some 42) (.loadS (.t 41)) <|
  .op (some 43) (.mv (.t 1)) <|
  .op (some 44) (.iaddrS 1 (.t 42) (.t 43)) <|
  .op (some 45) (.loadS (.t 44)) <|
  .op (some 46) (.mv (.t 7)) <|
  .op (some 47) (.iaddrS 4 (.t 45) (.t 46)) <|
  .op (some 48) (.faddr 1 (.t 47)) <|
  .op (some 49) (.loadI .i64 (.t 48)) <|
  .op (some 50) (.buildSl 3 1 [(.int .i64 0)] [(0, 1, (.t 49))]) <|
  .op (some 51) (.append 3 1 8 [(.int .i64 0)] (.t 38) (.t 50)) <|
  .op (some 6) (.mv (.t 51)) <|
  .nil
def Q34_7 : Sts := .op (some 36) (.mv (.t 7)) <|
  .op (some 37) (.bin .add (.t 36) (.c (.int .i64 1))) <|
  .op (some 7) (.mv (.t 37)) <|
  .nil
def Q34_L8 : RCode := (.seq (.seq (.reg Q34_5) (.cond (.t 35) .skip (.exit 0))) (.seq (.block 1 (.reg Q34_6)) (.reg Q34_7)))
def Q34_8 : Sts := .op (some 52) (.mv (.t 6)) <|
  .op (some 4) (.mv (.t 52)) <|
  .op (some 5) (.mv (.c (.int .i64 0))) <|
  .nil
def Q34 : RFun := ⟨53, [0, 1, 4, 5, 6, 7], (.seq (.reg Q34_0) (.seq (.seq (.reg Q34_1) (.cond (.t 25) (.seq (.reg Q34_2) .ret) .skip)) (.seq (.reg Q34_3) (.seq (.seq (.reg Q34_4) (.block 0 (.loop Q34_L8))) (.seq (.reg Q34_8) .ret))))), [.tmp 4, .tmp 5]⟩
theorem Q34_ok : compF Try.prog [0, 1, 4, 5, 6, 7] [28, 33, 19, 32, 29, 30, 73] 47 = some Q34 := by kernel_rfl

/- (*lockless/locklessref05.Machine).choices -/
def Q35_0 : Sts := .op (some 4) (.mv (.c (.slice none 0 0))) <|
  .nil
def Q35_1 : AT := .q (.op 0 (some 13) (.mv (.t 0)) <|
  .op 1 (some 14) (.nilck (.t 13)) <|
  .op 2 (some 15) (.faddr 0 (.t 14)) <|
  .op 3 (some 16) (.faddr 0 (.t 15)) <|
  .op 4 (some 17) (.loadS (.t 16)) <|
  .op 5 (some 18) (.mv (.t 1)) <|
  .op 6 (some 19) (.iaddrS 1 (.t 17) (.t 18)) <|
  .op 7 (some 20) (.loadS (.t 19)) <|
  .op 8 (some 21) (.mv (.t 0)) <|
  .op 9 (some 22) (.nilck (.t 21)) <|
  .op 10 (some 23) (.faddr 1 (.t 22)) <|
  .op 11 (some 24) (.loadS (.t 23)) <|
  .op 12 (some 25) (.mv (.t 1)) <|
  .op 13 (some 26) (.iaddrS 1 (.t 24) (.t 25)) <|
  .op 14 (some 27) (.loadI .i64 (.t 26)) <|
  .op 15 (some 28) (.iaddrS 5 (.t 20) (.t 27)) <|
  .op 16 (some 29) (.loadA 5 (.t 28)) <|
  .nil) <|
  .s 17 (some 5) (.alloc 55 [(.int .i64 0), (.int .i64 0), (.int .i64 0), (.int .i64 0), (.int .i64 0)]) false (
  .q (.nil) <|
  .s 18 none (.store 5 (.t 5) (.t 29)) true (
  .q (.nil) <|
  .fin) <|
  .no) <|
  .no
def Q35_2 : Sts := .op (some 30) (.faddr 0 (.t 5)) <|
  .op (some 31) (.loadI .i64 (.t 30)) <|
  .op (some 32) (.bin .eql (.t 31) (.c (.int .i64 5))) <|
  .nil
def Q35_3 : Sts := .op (some 33) (.build [(.int .i64 0), (.int .i64 0), (.bool false)] [(0, 1, (.c (.int .i64 (-1)))), (1, 1, (.c (.int .i64 (-1))))]) <|
  .op (some 34) (.buildSl 89 1 [(.int .i64 0), (.int .i64 0), (.bool false)] [(0, 3, (.t 33))]) <|
  .op (some 4) (.mv (.t 34)) <|
  .nil
def Q35_4 : Sts := .op (some 6) (.mv (.c (.slice none 0 0))) <|
  .nil
def Q35_5 : AT := .q (.op 0 (some 35) (.mv (.t 0)) <|
  .op 1 (some 36) (.nilck (.t 35)) <|
  .op 2 (some 37) (.faddr 3 (.t 36)) <|
  .op 3 (some 38) (.loadS (.t 37)) <|
  .op 4 (some 39) (.faddr 1 (.t 5)) <|
  .op 5 (some 40) (.loadI .i64 (.t 39)) <|
  .op 6 (some 41) (.iaddrS 1 (.t 38) (.t 40)) <|
  .op 7 (some 42) (.loadS (.t 41)) <|
  .op 8 (some 7) (.mv (.t 42)) <|
  .nil) <|
  .fin
def Q35_6 : AT := .q (.op 0 (some 43) (.mv (.t 0)) <|
  .op 1 (some 44) (.faddr 1 (.t 5)) <|
  .op 2 (some 45) (.loadI .i64 (.t 44)) <|
  .op 3 (some 46) (.mv (.t 0)) <|
  .op 4 (some 47) (.nilck (.t 46)) <|
  .op 5 (some 48) (.faddr 4 (.t 47)) <|
  .op 6 (some 49) (.loadS (.t 48)) <|
  .op 7 (some 50) (.mv (.t 1)) <|
  .op 8 (some 51) (.iaddrS 1 (.t 49) (.t 50)) <|
  .op 9 (some 52) (.loadS (.t 51)) <|
  .op 10 (some 53) (.faddr 1 (.t 5)) <|
  .op 11 (some 54) (.loadI .i64 (.t 53)) <|
  .op 12 (some 55) (.iaddrS 1 (.t 52) (.t 54)) <|
  .op 13 (some 56) (.loadI .i64 (.t 55)) <|
  .op 14 (some 57) (.call 73 [(.t 43), (.t 45), (.t 56)]) <|
  .op 15 (some 8) (.mv (.t 57)) <|
  .nil) <|
  .fin
def Q35_7 : Sts := .op (some 58) (.faddr 0 (.t 5)) <|
  .op (some 59) (.loadI .i64 (.t 58)) <|
  .op (some 60) (.bin .eql (.t 59) (.c (.int .i64 1))) <|
  .nil
def Q35_8 : Sts := .op (some 61) (.mv (.t 8)) <|
  .op (some 62) (.bin .add (.t 61) (.c (.int .i64 1))) <|
  .op (some 9) (.mv (.t 62)) <|
  .nil
def Q35_9 : Sts := .op (some 63) (.mv (.t 9)) <|
  .op (some 64) (.mv (.t 7)) <|
  .op (some 65) (.len (.t 64)) <|
  .op (some 66) (.bin .leq (.t 63) (.t 65)) <|
  .nil
def Q35_10 : Sts := .op (some 69) (.mv (.t 9)) <|
  .op (some 70) (.mv (.t 7)) <|
  .op (some 71) (.len (.t 70)) <|
  .op (some 72) (.bin .eql (.t 69) (.t 71)) <|
  .op (some 73) (.mv (.t 72)) <|
  .cnd 73 false (
  .op (some 74) (.mv (.t 7)) <|
  .op (some 75) (.mv (.t 9)) <|
  .op (some 76) (.iaddrS 4 (.t 74) (.t 75)) <|
  .op (some 77) (.faddr 3 (.t 76)) <|
  .op (some 78) (.loadB (.t 77)) <|
  .op (some 79) (.notb (.t 78)) <|
  .nil) 80 (.t 79) <|
  .nil
def Q35_11 : Sts := .op (some 81) (.mv (.t 6)) <|
  .op (some 82) (.mv (.t 9)) <|
  .op (some 83) (.build [(.int .i64 0), (.int .i64 0), (.bool false)] [(0, 1, (.c (.int .i64 (-1)))), (1, 1, (.t 82)), (2, 1, (.c (.bool true)))]) <|
  .op (some 84) (.buildSl 89 1 [(.int .i64 0), (.int .i64 0), (.bool false)] [(0, 3, (.t 83))]) <|
  .op (some 85) (.append 89 3 24 [(.int .i64 0), (.int .i64 0), (.bool false)] (.t 81) (.t 84)) <|
  .op (some 6) (.mv (.t 85)) <|
  .nil
def Q35_12 : Sts := .op (some 67) (.mv (.t 9)) <|
  .op (some 68) (.bin .add (.t 67) (.c (.int .i64 1))) <|
  .op (some 9) (.mv (.t 68)) <|
  .nil
def Q35_L13 : RCode := (.seq (.seq (.reg Q35_9) (.cond (.t 66) .skip (.exit 0))) (.seq (.block 1 (.seq (.reg Q35_10) (.cond (.t 80) (.reg Q35_11) .skip))) (.reg Q35_12)))
def Q35_13 : Sts := .op (some 86) (.mv (.t 6)) <|
  .op (some 4) (.mv (.t 86)) <|
  .nil
def Q35_14 : Sts := .op (some 87) (.mv (.t 8)) <|
  .op (some 10) (.mv (.t 87)) <|
  .nil
def Q35_15 : Sts := .op (some 88) (.mv (.t 10)) <|
  .op (some 89) (.mv (.t 7)) <|
  .op (some 90) (.len (.t 89)) <|
  .op (some 91) (.bin .lss (.t 88) (.t 90)) <|
  .nil
def Q35_16 : Sts := .op (some 94) (.mv (.t 0)) <|
  .op (some 95) (.faddr 1 (.t 5)) <|
  .op (some 96) (.loadI .i64 (.t 95)) <|
  .op (some 97) (.mv (.t 10)) <|
  .op (some 98) (.call 74 [(.t 94), (.t 96), (.t 97)]) <|
  .op (some 99) (.notb (.t 98)) <|
  .op (some 11) (.mv (.t 99)) <|
  .nil
def Q35_17 : AT := .q (.op 0 (some 100) (.faddr 0 (.t 5)) <|
  .op 1 (some 101) (.loadI .i64 (.t 100)) <|
  .op 2 (some 102) (.bin .eql (.t 101) (.c (.int .i64 2))) <|
  .op 3 (some 103) (.mv (.t 102)) <|
  .g 103 false (
  .op 4 (some 104) (.faddr 0 (.t 5)) <|
  .op 5 (some 105) (.loadI .i64 (.t 104)) <|
  .op 6 (some 106) (.bin .geq (.t 105) (.c (.int .i64 3))) <|
  .op 7 (some 107) (.mv (.t 106)) <|
  .g 107 true (
  .op 8 (some 108) (.mv (.t 7)) <|
  .op 9 (some 109) (.mv (.t 10)) <|
  .op 10 (some 110) (.iaddrS 4 (.t 108) (.t 109)) <|
  .op 11 (some 111) (.faddr 1 (.t 110)) <|
  .op 12 (some 112) (.loadI .i64 (.t 111)) <|
  .op 13 (some 113) (.faddr 2 (.t 5)) <|
  .op 14 (some 114) (.loadI .i64 (.t 113)) <|
  .op 15 (some 115) (.bin .eql (.t 112) (.t 114)) <|
  .nil) 16 116 (.t 115) <|
  .nil) 17 117 (.t 116) <|
  .op 18 (some 12) (.mv (.t 117)) <|
  .nil) <|
  .fin
def Q35_18 : Sts := .op (some 118) (.mv (.t 12)) <|
  .op (some 119) (.mv (.t 118)) <|
  .cnd 119 true (
  .op (some 120) (.mv (.t 11)) <|
  .nil) 121 (.t 120) <|
  .nil
def Q35_19 : Sts := .op (some 122) (.mv (.t 6)) <|
  .op (some 123) (.mv (.t 10)) <|
  .op (some 124) (.mv (.t 10)) <|
  .op (some 125) (.bin .add (.t 124) (.c (.int .i64 1))) <|
  .op (some 126) (.build [(.int .i64 0), (.int .i64 0), (.bool false)] [(0, 1, (.t 123)), (1, 1, (.t 125)), (2, 1, (.c (.bool true)))]) <|
  .op (some 127) (.buildSl 89 1 [(.int .i64 0), (.int .i64 0), (.bool false)] [(0, 3, (.t 126))]) <|
  .op (some 128) (.append 89 3 24 [(.int .i64 0), (.int .i64 0), (.bool false)] (.t 122) (.t 127)) <|
  .op (some 6) (.mv (.t 128)) <|
  .nil
def Q35_20 : Sts := .op (some 129) (.mv (.t 12)) <|
  .op (some 130) (.notb (.t 129)) <|
  .op (some 131) (.mv (.t 130)) <|
  .cnd 131 false (
  .op (some 132) (.faddr 0 (.t 5)) <|
  .op (some 133) (.loadI .i64 (.t 132)) <|
  .op (some 134) (.bin .eql (.t 133) (.c (.int .i64 4))) <|
  .nil) 135 (.t 134) <|
  .nil
def Q35_21 : Sts := .op (some 136) (.mv (.t 6)) <|
  .op (some 137) (.mv (.t 10)) <|
  .op (some 138) (.build [(.int .i64 0), (.int .i64 0), (.bool false)] [(0, 1, (.t 137)), (1, 1, (.c (.int .i64 (-1))))]) <|
  .op (some 139) (.buildSl 89 1 [(.int .i64 0), (.int .i64 0), (.bool false)] [(0, 3, (.t 138))]) <|
  .op (some 140) (.append 89 3 24 [(.int .i64 0), (.int .i64 0), (.bool false)] (.t 136) (.t 139)) <|
  .op (some 6) (.mv (.t 140)) <|
  .nil
def Q35_22 : Sts := .op (some 92) (.mv (.t 10)) <|
  .op (some 93) (.bin .add (.t 92) (.c (.int .i64 1))) <|
  .op (some 10) (.mv (.t 93)) <|
  .nil
def Q35_L23 : RCode := (.seq (.seq (.reg Q35_15) (.cond (.t 91) .skip (.exit 2))) (.seq (.block 3 (.seq (.reg Q35_16) (.seq (.any Q35_17) (.seq (.seq (.reg Q35_18) (.cond (.t 121) (.reg Q35_19) .skip)) (.seq (.reg Q35_20) (.cond (.t 135) (.reg Q35_21) .skip)))))) (.reg Q35_22)))
def Q35_23 : Sts := .op (some 141) (.mv (.t 6)) <|
  .op (some 4) (.mv (.t 141)) <|
  .nil
def Q35 : RFun := ⟨142, [0, 1, 4, 5, 6, 7, 8, 9, 10, 11, 12], (.seq (.reg Q35_0) (.seq (.any Q35_1) (.seq (.seq (.reg Q35_2) (.cond (.t 32) (.seq (.reg Q35_3) .ret) .skip)) (.seq (.reg Q35_4) (.seq (.any Q35_5) (.seq (.any Q35_6) (.seq (.seq (.reg Q35_7) (.cond (.t 60) (.seq (.seq (.reg Q35_8) (.block 0 (.loop Q35_L13))) (.seq (.reg Q35_13) .ret)) .skip)) (.seq (.seq (.reg Q35_14) (.block 2 (.loop Q35_L23))) (.seq (.reg Q35_23) .ret))))))))), [.tmp 4]⟩
theorem Q35_ok : compF Try.prog [0, 1, 4, 5, 6, 7, 8, 9, 10, 11, 12] [28, 33, 19, 32, 29, 30, 73] 48 = some Q35 := by kernel_rfl

/- (*lockless/locklessref05.Machine).fence -/
def Q36_0 : Sts := .op (some 6) (.mv (.t 2)) <|
  .op (some 7) (.call 51 [(.t 6)]) <|
  .nil
def Q36_1 : AT := .q (.op 0 (some 8) (.mv (.t 0)) <|
  .op 1 (some 9) (.nilck (.t 8)) <|
  .op 2 (some 10) (.faddr 4 (.t 9)) <|
  .op 3 (some 11) (.loadS (.t 10)) <|
  .op 4 (some 12) (.mv (.t 1)) <|
  .op 5 (some 13) (.mv (.t 0)) <|
  .op 6 (some 14) (.mv (.t 0)) <|
  .op 7 (some 15) (.nilck (.t 14)) <|
  .op 8 (some 16) (.faddr 4 (.t 15)) <|
  .op 9 (some 17) (.loadS (.t 16)) <|
  .op 10 (some 18) (.mv (.t 1)) <|
  .op 11 (some 19) (.iaddrS 1 (.t 17) (.t 18)) <|
  .op 12 (some 20) (.loadS (.t 19)) <|
  .op 13 (some 21) (.mv (.t 0)) <|
  .op 14 (some 22) (.nilck (.t 21)) <|
  .op 15 (some 23) (.faddr 5 (.t 22)) <|
  .op 16 (some 24) (.loadS (.t 23)) <|
  .op 17 (some 25) (.mv (.t 1)) <|
  .op 18 (some 26) (.iaddrS 1 (.t 24) (.t 25)) <|
  .op 19 (some 27) (.loadS (.t 26)) <|
  .nil) <|
  .s 20 (some 28) (.call 50 [(.t 13), (.t 20), (.t 27)]) false (
  .q (.op 21 (some 29) (.iaddrS 1 (.t 11) (.t 12)) <|
  .nil) <|
  .s 22 none (.store 1 (.t 29) (.t 28)) true (
  .q (.nil) <|
  .fin) <|
  .no) <|
  .no
def Q36_2 : Sts := .op (some 30) (.mv (.t 2)) <|
  .op (some 31) (.bin .eql (.t 30) (.c (.int .i64 4))) <|
  .nil
def Q36_3 : AT := .q (.op 0 (some 32) (.mv (.t 0)) <|
  .op 1 (some 33) (.nilck (.t 32)) <|
  .op 2 (some 34) (.faddr 4 (.t 33)) <|
  .op 3 (some 35) (.loadS (.t 34)) <|
  .op 4 (some 36) (.mv (.t 1)) <|
  .op 5 (some 37) (.mv (.t 0)) <|
  .op 6 (some 38) (.mv (.t 0)) <|
  .op 7 (some 39) (.nilck (.t 38)) <|
  .op 8 (some 40) (.faddr 4 (.t 39)) <|
  .op 9 (some 41) (.loadS (.t 40)) <|
  .op 10 (some 42) (.mv (.t 1)) <|
  .op 11 (some 43) (.iaddrS 1 (.t 41) (.t 42)) <|
  .op 12 (some 44) (.loadS (.t 43)) <|
  .op 13 (some 45) (.mv (.t 0)) <|
  .op 14 (some 46) (.nilck (.t 45)) <|
  .op 15 (some 47) (.faddr 7 (.t 46)) <|
  .op 16 (some 48) (.loadS (.t 47)) <|
  .nil) <|
  .s 17 (some 49) (.call 50 [(.t 37), (.t 44), (.t 48)]) false (
  .q (.op 18 (some 50) (.iaddrS 1 (.t 35) (.t 36)) <|
  .nil) <|
  .s 19 none (.store 1 (.t 50) (.t 49)) true (
  .q (.nil) <|
  .fin) <|
  .no) <|
  .no
def Q36_4 : Sts := .op (some 51) (.mv (.t 0)) <|
  .op (some 52) (.mv (.t 0)) <|
  .op (some 53) (.nilck (.t 52)) <|
  .op (some 54) (.faddr 4 (.t 53)) <|
  .op (some 55) (.loadS (.t 54)) <|
  .op (some 56) (.mv (.t 1)) <|
  .op (some 57) (.iaddrS 1 (.t 55) (.t 56)) <|
  .op (some 58) (.loadS (.t 57)) <|
  .op (some 59) (.call 75 [(.t 58)]) <|
  .op (some 60) (.nilck (.t 51)) <|
  .op (some 61) (.faddr 7 (.t 60)) <|
  .op none (.store 1 (.t 61) (.t 59)) <|
  .nil
def Q36_5 : AT := .q (.op 0 (some 62) (.mv (.t 0)) <|
  .op 1 (some 63) (.nilck (.t 62)) <|
  .op 2 (some 64) (.faddr 5 (.t 63)) <|
  .op 3 (some 65) (.loadS (.t 64)) <|
  .op 4 (some 66) (.mv (.t 1)) <|
  .op 5 (some 67) (.mv (.t 0)) <|
  .op 6 (some 68) (.mv (.t 0)) <|
  .op 7 (some 69) (.nilck (.t 68)) <|
  .op 8 (some 70) (.faddr 5 (.t 69)) <|
  .op 9 (some 71) (.loadS (.t 70)) <|
  .op 10 (some 72) (.mv (.t 1)) <|
  .op 11 (some 73) (.iaddrS 1 (.t 71) (.t 72)) <|
  .op 12 (some 74) (.loadS (.t 73)) <|
  .op 13 (some 75) (.mv (.t 0)) <|
  .op 14 (some 76) (.nilck (.t 75)) <|
  .op 15 (some 77) (.faddr 4 (.t 76)) <|
  .op 16 (some 78) (.loadS (.t 77)) <|
  .op 17 (some 79) (.mv (.t 1)) <|
  .op 18 (some 80) (.iaddrS 1 (.t 78) (.t 79)) <|
  .op 19 (some 81) (.loadS (.t 80)) <|
  .nil) <|
  .s 20 (some 82) (.call 50 [(.t 67), (.t 74), (.t 81)]) false (
  .q (.op 21 (some 83) (.iaddrS 1 (.t 65) (.t 66)) <|
  .nil) <|
  .s 22 none (.store 1 (.t 83) (.t 82)) true (
  .q (.nil) <|
  .fin) <|
  .no) <|
  .no
def Q36_6 : Sts := .op (some 84) (.mv (.t 2)) <|
  .op (some 85) (.call 76 [(.t 84)]) <|
  .nil
def Q36_7 : AT := .q (.op 0 (some 86) (.mv (.t 0)) <|
  .op 1 (some 87) (.nilck (.t 86)) <|
  .op 2 (some 88) (.faddr 6 (.t 87)) <|
  .op 3 (some 89) (.loadS (.t 88)) <|
  .op 4 (some 90) (.mv (.t 1)) <|
  .op 5 (some 91) (.mv (.t 0)) <|
  .op 6 (some 92) (.nilck (.t 91)) <|
  .op 7 (some 93) (.faddr 4 (.t 92)) <|
  .op 8 (some 94) (.loadS (.t 93)) <|
  .op 9 (some 95) (.mv (.t 1)) <|
  .op 10 (some 96) (.iaddrS 1 (.t 94) (.t 95)) <|
  .op 11 (some 97) (.loadS (.t 96)) <|
  .nil) <|
  .s 12 (some 98) (.call 75 [(.t 97)]) false (
  .q (.op 13 (some 99) (.iaddrS 1 (.t 89) (.t 90)) <|
  .nil) <|
  .s 14 none (.store 1 (.t 99) (.t 98)) true (
  .q (.nil) <|
  .fin) <|
  .no) <|
  .no
def Q36 : RFun := ⟨100, [0, 1, 2], (.seq (.seq (.reg Q36_0) (.cond (.t 7) (.any Q36_1) .skip)) (.seq (.seq (.reg Q36_2) (.cond (.t 31) (.seq (.any Q36_3) (.reg Q36_4)) .skip)) (.seq (.any Q36_5) (.seq (.reg Q36_6) (.cond (.t 85) (.any Q36_7) .skip))))), []⟩
theorem Q36_ok : compF Try.prog [0, 1, 2] [28, 33, 19, 32, 29, 30, 73] 49 = some Q36 := by kernel_rfl

/- (*lockless/locklessref05.Machine).join -/
def Q38_0 : Sts := .op (some 6) (.mv (.c (.slice none 0 0))) <|
  .nil
def Q38_1 : Sts := .op (some 9) (.mv (.t 1)) <|
  .op (some 10) (.call 75 [(.t 9)]) <|
  .op (some 7) (.mv (.t 10)) <|
  .nil
def Q38_2 : Sts := .op (some 8) (.mv (.c (.int .i64 0))) <|
  .nil
def Q38_3 : Sts := .op (some 11) (.mv (.t 8)) <|
  .op (some 12) (.bin .lss (.t 11) (.c (.int .i64 3))) <|
  .nil
def Q38_4 : AT := .q (.op 0 (some 15) (.mv (.t 1)) <|
  .op 1 (some 16) (.mv (.t 8)) <|
  .op 2 (some 17) (.iaddrS 1 (.t 15) (.t 16)) <|
  .op 3 (some 18) (.loadI .i64 (.t 17)) <|
  .op 4 (some 19) (.bin .lss (.t 18) (.c (.int .i64 0))) <|
  .op 5 (some 20) (.mv (.t 19)) <|
  .g 20 false (
  .op 6 (some 21) (.mv (.t 2)) <|
  .op 7 (some 22) (.mv (.t 8)) <|
  .op 8 (some 23) (.iaddrS 1 (.t 21) (.t 22)) <|
  .op 9 (some 24) (.loadI .i64 (.t 23)) <|
  .op 10 (some 25) (.bin .geq (.t 24) (.c (.int .i64 0))) <|
  .op 11 (some 26) (.mv (.t 25)) <|
  .g 26 true (
  .op 12 (some 27) (.mv (.t 0)) <|
  .op 13 (some 28) (.mv (.t 8)) <|
  .op 14 (some 29) (.mv (.t 2)) <|
  .op 15 (some 30) (.mv (.t 8)) <|
  .op 16 (some 31) (.iaddrS 1 (.t 29) (.t 30)) <|
  .op 17 (some 32) (.loadI .i64 (.t 31)) <|
  .op 18 (some 33) (.call 73 [(.t 27), (.t 28), (.t 32)]) <|
  .op 19 (some 34) (.mv (.t 0)) <|
  .op 20 (some 35) (.mv (.t 8)) <|
  .op 21 (some 36) (.mv (.t 1)) <|
  .op 22 (some 37) (.mv (.t 8)) <|
  .op 23 (some 38) (.iaddrS 1 (.t 36) (.t 37)) <|
  .op 24 (some 39) (.loadI .i64 (.t 38)) <|
  .op 25 (some 40) (.call 73 [(.t 34), (.t 35), (.t 39)]) <|
  .op 26 (some 41) (.bin .gtr (.t 33) (.t 40)) <|
  .nil) 27 42 (.t 41) <|
  .nil) 28 43 (.t 42) <|
  .nil) <|
  .fin
def Q38_5 : Sts := .op (some 44) (.mv (.t 7)) <|
  .op (some 45) (.mv (.t 8)) <|
  .op (some 46) (.mv (.t 2)) <|
  .op (some 47) (.mv (.t 8)) <|
  .op (some 48) (.iaddrS 1 (.t 46) (.t 47)) <|
  .op (some 49) (.loadI .i64 (.t 48)) <|
  .op (some 50) (.iaddrS 1 (.t 44) (.t 45)) <|
  .op none (.store 1 (.t 50) (.t 49)) <|
  .nil
def Q38_6 : Sts := .op (some 13) (.mv (.t 8)) <|
  .op (some 14) (.bin .add (.t 13) (.c (.int .i64 1))) <|
  .op (some 8) (.mv (.t 14)) <|
  .nil
def Q38_L7 : RCode := (.seq (.seq (.reg Q38_3) (.cond (.t 12) .skip (.exit 0))) (.seq (.block 1 (.seq (.any Q38_4) (.cond (.t 43) (.reg Q38_5) .skip))) (.reg Q38_6)))
def Q38_7 : Sts := .op (some 51) (.mv (.t 7)) <|
  .op (some 6) (.mv (.t 51)) <|
  .nil
def Q38 : RFun := ⟨52, [0, 1, 2, 6, 7, 8], (.seq (.reg Q38_0) (.seq (.reg Q38_1) (.seq (.seq (.reg Q38_2) (.block 0 (.loop Q38_L7))) (.seq (.reg Q38_7) .ret)))), [.tmp 6]⟩
theorem Q38_ok : compF Try.prog [0, 1, 2, 6, 7, 8] [28, 33, 19, 32, 29, 30, 73] 50 = some Q38 := by kernel_rfl

/- lockless/locklessref05.acquires -/
def Q45_0 : Sts := .op (some 2) (.mv (.c (.bool false))) <|
  .nil
def Q45_1 : Sts := .op (some 3) (.mv (.t 0)) <|
  .op (some 4) (.bin .eql (.t 3) (.c (.int .i64 1))) <|
  .op (some 5) (.mv (.t 4)) <|
  .cnd 5 false (
  .op (some 6) (.mv (.t 0)) <|
  .op (some 7) (.bin .eql (.t 6) (.c (.int .i64 3))) <|
  .nil) 8 (.t 7) <|
  .op (some 9) (.mv (.t 8)) <|
  .cnd 9 false (
  .op (some 10) (.mv (.t 0)) <|
  .op (some 11) (.bin .eql (.t 10) (.c (.int .i64 4))) <|
  .nil) 12 (.t 11) <|
  .op (some 2) (.mv (.t 12)) <|
  .nil
def Q45 : RFun := ⟨13, [0, 2], (.seq (.reg Q45_0) (.seq (.reg Q45_1) .ret)), [.tmp 2]⟩
theorem Q45_ok : compF Try.prog [0, 2] [28, 33, 19, 32, 29, 30, 73] 51 = some Q45 := by kernel_rfl

/- (*lockless/locklessref05.Machine).write -/
def Q42_0 : Sts := .op (some 7) (.box 55 (.t 2)) <|
  .op (some 8) (.box 89 (.t 3)) <|
  .op (some 9) (.box 86 (.t 4)) <|
  .nil
def Q42_1 : AT := .q (.op 0 (some 13) (.mv (.t 0)) <|
  .op 1 (some 14) (.nilck (.t 13)) <|
  .op 2 (some 15) (.faddr 8 (.t 14)) <|
  .op 3 (some 16) (.loadI .i64 (.t 15)) <|
  .op 4 (some 17) (.faddr 2 (.t 7)) <|
  .op 5 (some 18) (.loadI .i64 (.t 17)) <|
  .op 6 (some 19) (.faddr 0 (.t 8)) <|
  .op 7 (some 20) (.loadI .i64 (.t 19)) <|
  .op 8 (some 21) (.bin .geq (.t 20) (.c (.int .i64 0))) <|
  .op 9 (some 22) (.build [(.int .i64 0), (.int .i64 0), (.slice none 0 0), (.bool false)] [(0, 1, (.t 16)), (1, 1, (.t 18)), (3, 1, (.t 21))]) <|
  .nil) <|
  .s 10 (some 10) (.alloc 86 [(.int .i64 0), (.int .i64 0), (.slice none 0 0), (.bool false)]) false (
  .q (.nil) <|
  .s 11 none (.store 4 (.t 10) (.t 22)) true (
  .q (.nil) <|
  .fin) <|
  .no) <|
  .no
def Q42_2 : Sts := .op (some 23) (.mv (.t 0)) <|
  .op (some 24) (.mv (.t 0)) <|
  .op (some 25) (.nilck (.t 24)) <|
  .op (some 26) (.faddr 8 (.t 25)) <|
  .op (some 27) (.loadI .i64 (.t 26)) <|
  .op (some 28) (.bin .add (.t 27) (.c (.int .i64 1))) <|
  .op (some 29) (.nilck (.t 23)) <|
  .op (some 30) (.faddr 8 (.t 29)) <|
  .op none (.store 1 (.t 30) (.t 28)) <|
  .nil
def Q42_3 : Sts := .op (some 31) (.faddr 0 (.t 7)) <|
  .op (some 32) (.loadI .i64 (.t 31)) <|
  .op (some 33) (.bin .eql (.t 32) (.c (.int .i64 2))) <|
  .nil
def Q42_4 : Sts := .op (some 34) (.faddr 1 (.t 9)) <|
  .op (some 35) (.loadI .i64 (.t 34)) <|
  .op (some 36) (.faddr 2 (.t 7)) <|
  .op (some 37) (.loadI .i64 (.t 36)) <|
  .op (some 38) (.bin .add (.t 35) (.t 37)) <|
  .op (some 39) (.faddr 1 (.t 10)) <|
  .op none (.store 1 (.t 39) (.t 38)) <|
  .nil
def Q42_5 : Sts := .op (some 40) (.faddr 0 (.t 7)) <|
  .op (some 41) (.loadI .i64 (.t 40)) <|
  .op (some 42) (.bin .geq (.t 41) (.c (.int .i64 3))) <|
  .nil
def Q42_6 : Sts := .op (some 43) (.faddr 3 (.t 7)) <|
  .op (some 44) (.loadI .i64 (.t 43)) <|
  .op (some 45) (.faddr 1 (.t 10)) <|
  .op none (.store 1 (.t 45) (.t 44)) <|
  .nil
def Q42_7 : Sts := .op (some 46) (.call 43 []) <|
  .op (some 47) (.faddr 2 (.t 10)) <|
  .op none (.store 1 (.t 47) (.t 46)) <|
  .nil
def Q42_8 : Sts := .op (some 48) (.mv (.t 0)) <|
  .op (some 49) (.faddr 1 (.t 7)) <|
  .op (some 50) (.loadI .i64 (.t 49)) <|
  .op (some 51) (.faddr 1 (.t 8)) <|
  .op (some 52) (.loadI .i64 (.t 51)) <|
  .op (some 53) (.loadA 4 (.t 10)) <|
  .op (some 54) (.call 77 [(.t 48), (.t 50), (.t 52), (.t 53)]) <|
  .nil
def Q42_9 : Sts := .op (some 55) (.call 43 []) <|
  .op (some 11) (.mv (.t 55)) <|
  .nil
def Q42_10 : Sts := .op (some 56) (.mv (.t 11)) <|
  .op (some 57) (.faddr 1 (.t 7)) <|
  .op (some 58) (.loadI .i64 (.t 57)) <|
  .op (some 59) (.faddr 0 (.t 10)) <|
  .op (some 60) (.loadI .i64 (.t 59)) <|
  .op (some 61) (.iaddrS 1 (.t 56) (.t 58)) <|
  .op none (.store 1 (.t 61) (.t 60)) <|
  .nil
def Q42_11 : AT := .q (.op 0 (some 62) (.mv (.t 0)) <|
  .op 1 (some 63) (.nilck (.t 62)) <|
  .op 2 (some 64) (.faddr 4 (.t 63)) <|
  .op 3 (some 65) (.loadS (.t 64)) <|
  .op 4 (some 66) (.mv (.t 1)) <|
  .op 5 (some 67) (.mv (.t 0)) <|
  .op 6 (some 68) (.mv (.t 0)) <|
  .op 7 (some 69) (.nilck (.t 68)) <|
  .op 8 (some 70) (.faddr 4 (.t 69)) <|
  .op 9 (some 71) (.loadS (.t 70)) <|
  .op 10 (some 72) (.mv (.t 1)) <|
  .op 11 (some 73) (.iaddrS 1 (.t 71) (.t 72)) <|
  .op 12 (some 74) (.loadS (.t 73)) <|
  .op 13 (some 75) (.mv (.t 11)) <|
  .nil) <|
  .s 14 (some 76) (.call 50 [(.t 67), (.t 74), (.t 75)]) false (
  .q (.op 15 (some 77) (.iaddrS 1 (.t 65) (.t 66)) <|
  .nil) <|
  .s 16 none (.store 1 (.t 77) (.t 76)) true (
  .q (.nil) <|
  .fin) <|
  .no) <|
  .no
def Q42_12 : AT := .q (.op 0 (some 78) (.mv (.t 0)) <|
  .op 1 (some 79) (.nilck (.t 78)) <|
  .op 2 (some 80) (.faddr 5 (.t 79)) <|
  .op 3 (some 81) (.loadS (.t 80)) <|
  .op 4 (some 82) (.mv (.t 1)) <|
  .op 5 (some 83) (.mv (.t 0)) <|
  .op 6 (some 84) (.mv (.t 0)) <|
  .op 7 (some 85) (.nilck (.t 84)) <|
  .op 8 (some 86) (.faddr 5 (.t 85)) <|
  .op 9 (some 87) (.loadS (.t 86)) <|
  .op 10 (some 88) (.mv (.t 1)) <|
  .op 11 (some 89) (.iaddrS 1 (.t 87) (.t 88)) <|
  .op 12 (some 90) (.loadS (.t 89)) <|
  .op 13 (some 91) (.mv (.t 0)) <|
  .op 14 (some 92) (.nilck (.t 91)) <|
  .op 15 (some 93) (.faddr 4 (.t 92)) <|
  .op 16 (some 94) (.loadS (.t 93)) <|
  .op 17 (some 95) (.mv (.t 1)) <|
  .op 18 (some 96) (.iaddrS 1 (.t 94) (.t 95)) <|
  .op 19 (some 97) (.loadS (.t 96)) <|
  .nil) <|
  .s 20 (some 98) (.call 50 [(.t 83), (.t 90), (.t 97)]) false (
  .q (.op 21 (some 99) (.iaddrS 1 (.t 81) (.t 82)) <|
  .nil) <|
  .s 22 none (.store 1 (.t 99) (.t 98)) true (
  .q (.nil) <|
  .fin) <|
  .no) <|
  .no
def Q42_13 : Sts := .op (some 100) (.mv (.t 0)) <|
  .op (some 101) (.mv (.t 0)) <|
  .op (some 102) (.nilck (.t 101)) <|
  .op (some 103) (.faddr 6 (.t 102)) <|
  .op (some 104) (.loadS (.t 103)) <|
  .op (some 105) (.mv (.t 1)) <|
  .op (some 106) (.iaddrS 1 (.t 104) (.t 105)) <|
  .op (some 107) (.loadS (.t 106)) <|
  .op (some 108) (.mv (.t 11)) <|
  .op (some 109) (.call 50 [(.t 100), (.t 107), (.t 108)]) <|
  .op (some 12) (.mv (.t 109)) <|
  .nil
def Q42_14 : Sts := .op (some 110) (.faddr 4 (.t 7)) <|
  .op (some 111) (.loadI .i64 (.t 110)) <|
  .op (some 112) (.call 76 [(.t 111)]) <|
  .nil
def Q42_15 : Sts := .op (some 113) (.mv (.t 0)) <|
  .op (some 114) (.nilck (.t 113)) <|
  .op (some 115) (.faddr 4 (.t 114)) <|
  .op (some 116) (.loadS (.t 115)) <|
  .op (some 117) (.mv (.t 1)) <|
  .op (some 118) (.iaddrS 1 (.t 116) (.t 117)) <|
  .op (some 119) (.loadS (.t 118)) <|
  .op (some 12) (.mv (.t 119)) <|
  .nil
def Q42_16 : Sts := .op (some 120) (.faddr 0 (.t 8)) <|
  .op (some 121) (.loadI .i64 (.t 120)) <|
  .op (some 122) (.bin .geq (.t 121) (.c (.int .i64 0))) <|
  .nil
def Q42_17 : Sts := .op (some 123) (.mv (.t 0)) <|
  .op (some 124) (.mv (.t 12)) <|
  .op (some 125) (.faddr 2 (.t 9)) <|
  .op (some 126) (.loadS (.t 125)) <|
  .op (some 127) (.call 50 [(.t 123), (.t 124), (.t 126)]) <|
  .op (some 12) (.mv (.t 127)) <|
  .nil
def Q42_18 : AT := .q (.op 0 (some 128) (.mv (.t 0)) <|
  .op 1 (some 129) (.nilck (.t 128)) <|
  .op 2 (some 130) (.faddr 3 (.t 129)) <|
  .op 3 (some 131) (.loadS (.t 130)) <|
  .op 4 (some 132) (.faddr 1 (.t 7)) <|
  .op 5 (some 133) (.loadI .i64 (.t 132)) <|
  .op 6 (some 134) (.iaddrS 1 (.t 131) (.t 133)) <|
  .op 7 (some 135) (.loadS (.t 134)) <|
  .op 8 (some 136) (.faddr 1 (.t 8)) <|
  .op 9 (some 137) (.loadI .i64 (.t 136)) <|
  .op 10 (some 138) (.mv (.t 12)) <|
  .op 11 (some 139) (.iaddrS 4 (.t 135) (.t 137)) <|
  .op 12 (some 140) (.faddr 2 (.t 139)) <|
  .nil) <|
  .s 13 none (.store 1 (.t 140) (.t 138)) true (
  .q (.nil) <|
  .fin) <|
  .no
def Q42 : RFun := ⟨141, [0, 1, 2, 3, 4, 7, 8, 9, 10, 11, 12], (.seq (.reg Q42_0) (.seq (.any Q42_1) (.seq (.reg Q42_2) (.seq (.seq (.reg Q42_3) (.cond (.t 33) (.reg Q42_4) .skip)) (.seq (.seq (.reg Q42_5) (.cond (.t 42) (.reg Q42_6) .skip)) (.seq (.reg Q42_7) (.seq (.reg Q42_8) (.seq (.reg Q42_9) (.seq (.reg Q42_10) (.seq (.any Q42_11) (.seq (.any Q42_12) (.seq (.reg Q42_13) (.seq (.seq (.reg Q42_14) (.cond (.t 112) (.reg Q42_15) .skip)) (.seq (.seq (.reg Q42_16) (.cond (.t 122) (.reg Q42_17) .skip)) (.any Q42_18))))))))))))))), []⟩
theorem Q42_ok : compF Try.prog [0, 1, 2, 3, 4, 7, 8, 9, 10, 11, 12] [28, 33, 19, 32, 29, 30, 73] 52 = some Q42 := by kernel_rfl

/- slices.Clone[[]lockless/api.Op,lockless/api.Op] -/
def Q55_0 : Sts := .op (some 2) (.mv (.c (.slice none 0 0))) <|
  .nil
def Q55_1 : Sts := .op (some 3) (.mv (.t 0)) <|
  .op (some 4) (.eqS false (.t 3)) <|
  .nil
def Q55_2 : Sts := .op (some 2) (.mv (.c (.slice none 0 0))) <|
  .nil
def Q55_3 : Sts := .op (some 5) (.buildSl 55 0 [] []) <|
  .op (some 6) (.mv (.t 0)) <|
  .op (some 7) (.append 55 5 40 [(.int .i64 0), (.int .i64 0), (.int .i64 0), (.int .i64 0), (.int .i64 0)] (.t 5) (.t 6)) <|
  .op (some 2) (.mv (.t 7)) <|
  .nil
def Q55 : RFun := ⟨8, [0, 2], (.seq (.reg Q55_0) (.seq (.seq (.reg Q55_1) (.cond (.t 4) (.seq (.reg Q55_2) .ret) .skip)) (.seq (.reg Q55_3) .ret))), [.tmp 2]⟩
theorem Q55_ok : compF Try.prog [0, 2] [28, 33, 19, 32, 29, 30, 73] 53 = some Q55 := by kernel_rfl

/- slices.Clone[[]lockless/view.message,lockless/view.message] -/
def Q57_0 : Sts := .op (some 2) (.mv (.c (.slice none 0 0))) <|
  .nil
def Q57_1 : Sts := .op (some 3) (.mv (.t 0)) <|
  .op (some 4) (.eqS false (.t 3)) <|
  .nil
def Q57_2 : Sts := .op (some 2) (.mv (.c (.slice none 0 0))) <|
  .nil
def Q57_3 : Sts := .op (some 5) (.buildSl 67 0 [] []) <|
  .op (some 6) (.mv (.t 0)) <|
  .op (some 7) (.append 67 5 40 [(.int .i64 0), (.int .i64 0), (.int .i64 0), (.int .i64 0), (.bool false)] (.t 5) (.t 6)) <|
  .op (some 2) (.mv (.t 7)) <|
  .nil
def Q57 : RFun := ⟨8, [0, 2], (.seq (.reg Q57_0) (.seq (.seq (.reg Q57_1) (.cond (.t 4) (.seq (.reg Q57_2) .ret) .skip)) (.seq (.reg Q57_3) .ret))), [.tmp 2]⟩
theorem Q57_ok : compF Try.prog [0, 2] [28, 33, 19, 32, 29, 30, 73] 54 = some Q57 := by kernel_rfl

/- slices.Clone[[]int,int] -/
def Q56_0 : Sts := .op (some 2) (.mv (.c (.slice none 0 0))) <|
  .nil
def Q56_1 : Sts := .op (some 3) (.mv (.t 0)) <|
  .op (some 4) (.eqS false (.t 3)) <|
  .nil
def Q56_2 : Sts := .op (some 2) (.mv (.c (.slice none 0 0))) <|
  .nil
def Q56_3 : Sts := .op (some 5) (.buildSl 3 0 [] []) <|
  .op (some 6) (.mv (.t 0)) <|
  .op (some 7) (.append 3 1 8 [(.int .i64 0)] (.t 5) (.t 6)) <|
  .op (some 2) (.mv (.t 7)) <|
  .nil
def Q56 : RFun := ⟨8, [0, 2], (.seq (.reg Q56_0) (.seq (.seq (.reg Q56_1) (.cond (.t 4) (.seq (.reg Q56_2) .ret) .skip)) (.seq (.reg Q56_3) .ret))), [.tmp 2]⟩
theorem Q56_ok : compF Try.prog [0, 2] [28, 33, 19, 32, 29, 30, 73] 55 = some Q56 := by kernel_rfl

/- slices.Clone[[]lockless/view.thread,lockless/view.thread] -/
def Q58_0 : Sts := .op (some 2) (.mv (.c (.slice none 0 0))) <|
  .nil
def Q58_1 : Sts := .op (some 3) (.mv (.t 0)) <|
  .op (some 4) (.eqS false (.t 3)) <|
  .nil
def Q58_2 : Sts := .op (some 2) (.mv (.c (.slice none 0 0))) <|
  .nil
def Q58_3 : Sts := .op (some 5) (.buildSl 69 0 [] []) <|
  .op (some 6) (.mv (.t 0)) <|
  .op (some 7) (.append 69 11 104 [(.int .i64 0), (.int .i64 0), (.int .i64 0), (.int .i64 0), (.int .i64 0), (.int .i64 0), (.int .i64 0), (.int .i64 0), (.int .i64 0), (.slice none 0 0), (.int .i64 0)] (.t 5) (.t 6)) <|
  .op (some 2) (.mv (.t 7)) <|
  .nil
def Q58 : RFun := ⟨8, [0, 2], (.seq (.reg Q58_0) (.seq (.seq (.reg Q58_1) (.cond (.t 4) (.seq (.reg Q58_2) .ret) .skip)) (.seq (.reg Q58_3) .ret))), [.tmp 2]⟩
theorem Q58_ok : compF Try.prog [0, 2] [28, 33, 19, 32, 29, 30, 73] 56 = some Q58 := by kernel_rfl

/- slices.ContainsFunc[[]int,int] -/
def Q59_0 : Sts := .op (some 4) (.mv (.c (.bool false))) <|
  .nil
def Q59_1 : Sts := .op (some 5) (.mv (.t 0)) <|
  .op (some 6) (.mv (.t 1)) <|
  .op (some 7) (.call 78 [(.t 5), (.t 6)]) <|
  .op (some 8) (.bin .geq (.t 7) (.c (.int .i64 0))) <|
  .op (some 4) (.mv (.t 8)) <|
  .nil
def Q59 : RFun := ⟨9, [0, 1, 4], (.seq (.reg Q59_0) (.seq (.reg Q59_1) .ret)), [.tmp 4]⟩
theorem Q59_ok : compF Try.prog [0, 1, 4] [28, 33, 19, 32, 29, 30, 73] 57 = some Q59 := by kernel_rfl

/- (*lockless/view.Machine).Over$1 -/
def Q72_0 : Sts := .op (some 2) (.mv (.c (.bool false))) <|
  .nil
def Q72_1 : Sts := .op (some 3) (.mv (.t 0)) <|
  .op (some 4) (.bin .gtr (.t 3) (.c (.int .i64 0))) <|
  .op (some 2) (.mv (.t 4)) <|
  .nil
def Q72 : RFun := ⟨5, [0, 2], (.seq (.reg Q72_0) (.seq (.reg Q72_1) .ret)), [.tmp 2]⟩
theorem Q72_ok : compF Try.prog [0, 2] [28, 33, 19, 32, 29, 30, 73] 58 = some Q72 := by kernel_rfl

/- lockless/litmus.Check -/
def Q0_0 : Sts := .op (some 1) (.box 24 (.t 0)) <|
  .op (some 2) (.mv (.c (.int .i64 0))) <|
  .nil
def Q0_1 : Sts := .op (some 9) (.loadA 1 (.t 1)) <|
  .op (some 10) (.call 79 [(.t 9)]) <|
  .op (some 11) (.notb (.t 10)) <|
  .nil
def Q0_2 : Sts := .op (some 2) (.mv (.c (.int .i64 2))) <|
  .nil
def Q0_3 : Sts := .op (some 12) (.faddr 0 (.t 1)) <|
  .op (some 13) (.loadS (.t 12)) <|
  .op (some 14) (.len (.t 13)) <|
  .op (some 15) (.bin .eql (.t 14) (.c (.int .i64 0))) <|
  .nil
def Q0_4 : Sts := .op (some 2) (.mv (.c (.int .i64 1))) <|
  .nil
def Q0_5 : Sts := .op (some 16) (.faddr 0 (.t 1)) <|
  .op (some 17) (.loadS (.t 16)) <|
  .op (some 18) (.len (.t 17)) <|
  .op (some 19) (.mv (.c (.int .i64 0))) <|
  .nil
def Q0_6 : Sts := .op (some 20) (.bin .lss (.t 19) (.t 18)) <|
  .nil
def Q0_7 : Sts := .op (some 21) (.iaddrS 1 (.t 17) (.t 19)) <|
  .op (some 22) (.loadS (.t 21)) <|
  .op (some 4) (.mv (.t 22)) <|
  .nil
def Q0_8 : Sts := .op (some 23) (.mv (.t 4)) <|
  .op (some 24) (.len (.t 23)) <|
  .op (some 25) (.mv (.c (.int .i64 0))) <|
  .nil
def Q0_9 : Sts := .op (some 26) (.bin .lss (.t 25) (.t 24)) <|
  .nil
def Q0_10 : Sts := .op (some 27) (.iaddrS 5 (.t 23) (.t 25)) <|
  .op (some 28) (.loadA 5 (.t 27)) <|
  .op (some 6) (.alloc 55 [(.int .i64 0), (.int .i64 0), (.int .i64 0), (.int .i64 0), (.int .i64 0)]) <|
  .op none (.store 5 (.t 6) (.t 28)) <|
  .nil
def Q0_11 : Sts := .op (some 30) (.faddr 0 (.t 6)) <|
  .op (some 31) (.loadI .i64 (.t 30)) <|
  .op (some 32) (.faddr 4 (.t 6)) <|
  .op (some 33) (.loadI .i64 (.t 32)) <|
  .op (some 34) (.call 80 [(.t 31), (.t 33)]) <|
  .op (some 29) (.mv (.t 34)) <|
  .op (some 35) (.extract 0 (.t 29)) <|
  .op (some 36) (.extract 1 (.t 29)) <|
  .op (some 7) (.mv (.t 35)) <|
  .op (some 8) (.mv (.t 36)) <|
  .nil
def Q0_12 : Sts := .op (some 37) (.mv (.t 8)) <|
  .op (some 38) (.bin .neq (.t 37) (.c (.int .i64 0))) <|
  .op (some 39) (.mv (.t 38)) <|
  .cnd 39 false (
  .op (some 40) (.mv (.t 7)) <|
  .op (some 41) (.notb (.t 40)) <|
  .nil) 42 (.t 41) <|
  .op (some 43) (.mv (.t 42)) <|
  .cnd 43 false (
  .op (some 44) (.loadA 5 (.t 6)) <|
  .op (some 45) (.call 81 [(.t 44)]) <|
  .op (some 46) (.notb (.t 45)) <|
  .nil) 47 (.t 46) <|
  .nil
def Q0_13 : Sts := .op (some 2) (.mv (.c (.int .i64 1))) <|
  .nil
def Q0_14 : Sts := .op (some 48) (.bin .add (.t 25) (.c (.int .i64 1))) <|
  .op (some 25) (.mv (.t 48)) <|
  .nil
def Q0_L15 : RCode := (.seq (.reg Q0_9) (.seq (.cond (.t 26) .skip (.exit 2)) (.seq (.block 3 (.seq (.reg Q0_10) (.seq (.reg Q0_11) (.seq (.reg Q0_12) (.cond (.t 47) (.seq (.reg Q0_13) .ret) .skip))))) (.reg Q0_14))))
def Q0_15 : Sts := .op (some 49) (.bin .add (.t 19) (.c (.int .i64 1))) <|
  .op (some 19) (.mv (.t 49)) <|
  .nil
def Q0_L16 : RCode := (.seq (.reg Q0_6) (.seq (.cond (.t 20) .skip (.exit 0)) (.seq (.block 1 (.seq (.reg Q0_7) (.seq (.reg Q0_8) (.block 2 (.loop Q0_L15))))) (.reg Q0_15))))
def Q0_16 : Sts := .op (some 2) (.mv (.c (.int .i64 0))) <|
  .nil
def Q0 : RFun := ⟨50, [0, 1, 2, 4, 6, 7, 8, 17, 18, 19, 23, 24, 25], (.seq (.reg Q0_0) (.seq (.seq (.reg Q0_1) (.cond (.t 11) (.seq (.reg Q0_2) .ret) .skip)) (.seq (.seq (.reg Q0_3) (.cond (.t 15) (.seq (.reg Q0_4) .ret) .skip)) (.seq (.seq (.reg Q0_5) (.block 0 (.loop Q0_L16))) (.seq (.reg Q0_16) .ret))))), [.tmp 2]⟩
theorem Q0_ok : compF Try.prog [0, 1, 2, 4, 6, 7, 8, 17, 18, 19, 23, 24, 25] [28, 33, 19, 32, 29, 30, 73] 59 = some Q0 := by kernel_rfl

/- lockless/litmus.rebuilt -/
def Q7_0 : Sts := .op (some 2) (.box 24 (.t 0)) <|
  .op (some 4) (.alloc 24 [(.slice none 0 0)]) <|
  .nil
def Q7_1 : Sts := .op (some 5) (.alloc 24 [(.slice none 0 0)]) <|
  .nil
def Q7_2 : Sts := .op (some 12) (.faddr 0 (.t 2)) <|
  .op (some 13) (.loadS (.t 12)) <|
  .op (some 14) (.len (.t 13)) <|
  .op (some 15) (.mv (.c (.int .i64 0))) <|
  .nil
def Q7_3 : Sts := .op (some 16) (.bin .lss (.t 15) (.t 14)) <|
  .nil
def Q7_4 : Sts := .op (some 17) (.iaddrS 1 (.t 13) (.t 15)) <|
  .op (some 18) (.loadS (.t 17)) <|
  .op (some 7) (.mv (.t 18)) <|
  .nil
def Q7_5 : Sts := .op (some 8) (.mv (.c (.slice none 0 0))) <|
  .nil
def Q7_6 : Sts := .op (some 9) (.mv (.c (.bool true))) <|
  .nil
def Q7_7 : Sts := .op (some 19) (.mv (.t 7)) <|
  .op (some 20) (.len (.t 19)) <|
  .op (some 21) (.mv (.c (.int .i64 0))) <|
  .nil
def Q7_8 : Sts := .op (some 22) (.bin .lss (.t 21) (.t 20)) <|
  .nil
def Q7_9 : Sts := .op (some 23) (.iaddrS 5 (.t 19) (.t 21)) <|
  .op (some 24) (.loadA 5 (.t 23)) <|
  .op (some 11) (.alloc 55 [(.int .i64 0), (.int .i64 0), (.int .i64 0), (.int .i64 0), (.int .i64 0)]) <|
  .op none (.store 5 (.t 11) (.t 24)) <|
  .nil
def Q7_10 : Sts := .op (some 25) (.mv (.t 8)) <|
  .op (some 26) (.mv (.t 1)) <|
  .op (some 27) (.loadA 5 (.t 11)) <|
  .op (some 28) (.mv (.t 9)) <|
  .op (some 29) (.callv (.t 26) [(.t 27), (.t 28)]) <|
  .op (some 30) (.append 55 5 40 [(.int .i64 0), (.int .i64 0), (.int .i64 0), (.int .i64 0), (.int .i64 0)] (.t 25) (.t 29)) <|
  .op (some 8) (.mv (.t 30)) <|
  .nil
def Q7_11 : Sts := .op (some 31) (.mv (.t 9)) <|
  .op (some 32) (.mv (.t 31)) <|
  .cnd 32 true (
  .op (some 33) (.loadA 5 (.t 11)) <|
  .op (some 34) (.call 62 [(.t 33)]) <|
  .op (some 35) (.notb (.t 34)) <|
  .nil) 36 (.t 35) <|
  .op (some 9) (.mv (.t 36)) <|
  .nil
def Q7_12 : Sts := .op (some 37) (.bin .add (.t 21) (.c (.int .i64 1))) <|
  .op (some 21) (.mv (.t 37)) <|
  .nil
def Q7_L13 : RCode := (.seq (.reg Q7_8) (.seq (.cond (.t 22) .skip (.exit 2)) (.seq (.block 3 (.seq (.reg Q7_9) (.seq (.reg Q7_10) (.reg Q7_11)))) (.reg Q7_12))))
def Q7_13 : Sts := .op (some 38) (.faddr 0 (.t 5)) <|
  .op (some 39) (.loadS (.t 38)) <|
  .op (some 40) (.mv (.t 8)) <|
  .op (some 41) (.buildSl 53 1 [(.slice none 0 0)] [(0, 1, (.t 40))]) <|
  .op (some 42) (.append 53 1 24 [(.slice none 0 0)] (.t 39) (.t 41)) <|
  .op (some 43) (.faddr 0 (.t 5)) <|
  .op none (.store 1 (.t 43) (.t 42)) <|
  .nil
def Q7_14 : Sts := .op (some 44) (.bin .add (.t 15) (.c (.int .i64 1))) <|
  .op (some 15) (.mv (.t 44)) <|
  .nil
def Q7_L15 : RCode := (.seq (.reg Q7_3) (.seq (.cond (.t 16) .skip (.exit 0)) (.seq (.block 1 (.seq (.reg Q7_4) (.seq (.reg Q7_5) (.seq (.reg Q7_6) (.seq (.seq (.reg Q7_7) (.block 2 (.loop Q7_L13))) (.reg Q7_13)))))) (.reg Q7_14))))
def Q7_15 : Sts := .op (some 45) (.loadA 1 (.t 5)) <|
  .op none (.store 1 (.t 4) (.t 45)) <|
  .nil
def Q7 : RFun := ⟨46, [0, 1, 2, 4, 5, 7, 8, 9, 11, 13, 14, 15, 19, 20, 21], (.seq (.reg Q7_0) (.seq (.reg Q7_1) (.seq (.seq (.reg Q7_2) (.block 0 (.loop Q7_L15))) (.seq (.reg Q7_15) .ret)))), [.cellA 4 1]⟩
theorem Q7_ok : compF Try.prog [0, 1, 2, 4, 5, 7, 8, 9, 11, 13, 14, 15, 19, 20, 21] [28, 33, 19, 32, 29, 30, 73] 60 = some Q7 := by kernel_rfl

/- lockless/litmus.Expand$1 -/
def Q2_0 : Sts := .op (some 2) (.box 55 (.t 0)) <|
  .op (some 4) (.mv (.c (.slice none 0 0))) <|
  .nil
def Q2_1 : Sts := .op (some 5) (.loadA 5 (.t 2)) <|
  .op (some 6) (.call 62 [(.t 5)]) <|
  .op (some 7) (.notb (.t 6)) <|
  .op (some 8) (.mv (.t 7)) <|
  .cnd 8 false (
  .op (some 9) (.faddr 4 (.t 2)) <|
  .op (some 10) (.loadI .i64 (.t 9)) <|
  .op (some 11) (.bin .neq (.t 10) (.c (.int .i64 4))) <|
  .nil) 12 (.t 11) <|
  .nil
def Q2_2 : Sts := .op (some 13) (.loadA 5 (.t 2)) <|
  .op (some 14) (.buildSl 55 1 [(.int .i64 0), (.int .i64 0), (.int .i64 0), (.int .i64 0), (.int .i64 0)] [(0, 5, (.t 13))]) <|
  .op (some 4) (.mv (.t 14)) <|
  .nil
def Q2_3 : Sts := .op (some 16) (.faddr 0 (.t 2)) <|
  .op (some 17) (.loadI .i64 (.t 16)) <|
  .op (some 18) (.faddr 4 (.t 2)) <|
  .op (some 19) (.loadI .i64 (.t 18)) <|
  .op (some 20) (.call 63 [(.t 17), (.t 19)]) <|
  .op (some 15) (.mv (.t 20)) <|
  .op (some 21) (.extract 0 (.t 15)) <|
  .op (some 22) (.extract 1 (.t 15)) <|
  .op (some 23) (.faddr 4 (.t 2)) <|
  .op none (.store 1 (.t 23) (.t 21)) <|
  .nil
def Q2_4 : AT := .q (.op 1 (some 25) (.loadA 5 (.t 2)) <|
  .nil) <|
  .s 0 (some 24) (.call 64 []) false (
  .q (.nil) <|
  .s 2 (some 26) (.call 64 []) false (
  .q (.nil) <|
  .s 3 (some 27) (.buildSl 55 3 [(.int .i64 0), (.int .i64 0), (.int .i64 0), (.int .i64 0), (.int .i64 0), (.int .i64 0), (.int .i64 0), (.int .i64 0), (.int .i64 0), (.int .i64 0), (.int .i64 0), (.int .i64 0), (.int .i64 0), (.int .i64 0), (.int .i64 0)] [(0, 5, (.t 24)), (5, 5, (.t 25)), (10, 5, (.t 26))]) true (
  .q (.op 4 (some 4) (.mv (.t 27)) <|
  .nil) <|
  .fin) <|
  .no) <|
  .no) <|
  .no
def Q2 : RFun := ⟨28, [0, 2, 4], (.seq (.reg Q2_0) (.seq (.seq (.reg Q2_1) (.cond (.t 12) (.seq (.reg Q2_2) .ret) .skip)) (.seq (.reg Q2_3) (.seq (.any Q2_4) .ret)))), [.tmp 4]⟩
theorem Q2_ok : compF Try.prog [0, 2, 4] [28, 33, 19, 32, 29, 30, 73] 61 = some Q2 := by kernel_rfl

/- lockless/litmus.access -/
def Q3_0 : Sts := .op (some 1) (.box 55 (.t 0)) <|
  .op (some 2) (.mv (.c (.bool false))) <|
  .nil
def Q3_1 : Sts := .op (some 3) (.faddr 0 (.t 1)) <|
  .op (some 4) (.loadI .i64 (.t 3)) <|
  .op (some 5) (.bin .geq (.t 4) (.c (.int .i64 0))) <|
  .op (some 6) (.mv (.t 5)) <|
  .cnd 6 true (
  .op (some 7) (.faddr 0 (.t 1)) <|
  .op (some 8) (.loadI .i64 (.t 7)) <|
  .op (some 9) (.bin .leq (.t 8) (.c (.int .i64 4))) <|
  .nil) 10 (.t 9) <|
  .op (some 2) (.mv (.t 10)) <|
  .nil
def Q3 : RFun := ⟨11, [0, 1, 2], (.seq (.reg Q3_0) (.seq (.reg Q3_1) .ret)), [.tmp 2]⟩
theorem Q3_ok : compF Try.prog [0, 1, 2] [28, 33, 19, 32, 29, 30, 73] 62 = some Q3 := by kernel_rfl

/- lockless/order.Plain -/
def Q50_0 : Sts := .op (some 4) (.mv (.c (.int .i64 0))) <|
  .op (some 5) (.mv (.c (.int .i64 0))) <|
  .nil
def Q50_1 : Sts := .op (some 9) (.mv (.t 0)) <|
  .op (some 10) (.mv (.t 1)) <|
  .op (some 11) (.call 80 [(.t 9), (.t 10)]) <|
  .op (some 8) (.mv (.t 11)) <|
  .op (some 12) (.extract 0 (.t 8)) <|
  .op (some 13) (.extract 1 (.t 8)) <|
  .op (some 6) (.mv (.t 12)) <|
  .op (some 7) (.mv (.t 13)) <|
  .nil
def Q50_2 : Sts := .op (some 15) (.mv (.t 7)) <|
  .op (some 16) (.bin .neq (.t 15) (.c (.int .i64 0))) <|
  .op (some 17) (.mv (.t 16)) <|
  .cnd 17 false (
  .op (some 18) (.mv (.t 6)) <|
  .op (some 19) (.notb (.t 18)) <|
  .nil) 20 (.t 19) <|
  .op (some 21) (.mv (.t 20)) <|
  .cnd 21 false (
  .op (some 22) (.mv (.t 0)) <|
  .op (some 23) (.bin .eql (.t 22) (.c (.int .i64 5))) <|
  .nil) 24 (.t 23) <|
  .op (some 14) (.mv (.t 24)) <|
  .nil
def Q50_3 : Sts := .op (some 4) (.mv (.c (.int .i64 0))) <|
  .op (some 5) (.mv (.c (.int .i64 1))) <|
  .nil
def Q50_4 : Sts := .op (some 26) (.mv (.t 1)) <|
  .op (some 27) (.bin .neq (.t 26) (.c (.int .i64 4))) <|
  .op (some 25) (.mv (.t 27)) <|
  .nil
def Q50_5 : Sts := .op (some 28) (.mv (.t 1)) <|
  .op (some 4) (.mv (.t 28)) <|
  .op (some 5) (.mv (.c (.int .i64 0))) <|
  .nil
def Q50_6 : Sts := .op (some 30) (.mv (.t 0)) <|
  .op (some 31) (.bin .eql (.t 30) (.c (.int .i64 0))) <|
  .op (some 29) (.mv (.t 31)) <|
  .nil
def Q50_7 : Sts := .op (some 4) (.mv (.c (.int .i64 1))) <|
  .op (some 5) (.mv (.c (.int .i64 0))) <|
  .nil
def Q50_8 : Sts := .op (some 33) (.mv (.t 0)) <|
  .op (some 34) (.bin .eql (.t 33) (.c (.int .i64 1))) <|
  .op (some 32) (.mv (.t 34)) <|
  .nil
def Q50_9 : Sts := .op (some 4) (.mv (.c (.int .i64 2))) <|
  .op (some 5) (.mv (.c (.int .i64 0))) <|
  .nil
def Q50_10 : Sts := .op (some 4) (.mv (.c (.int .i64 3))) <|
  .op (some 5) (.mv (.c (.int .i64 0))) <|
  .nil
def Q50 : RFun := ⟨35, [0, 1, 4, 5, 6, 7], (.seq (.reg Q50_0) (.seq (.reg Q50_1) (.seq (.block 0 (.seq (.reg Q50_2) (.cond (.t 14) (.seq (.reg Q50_3) .ret) (.seq (.reg Q50_4) (.cond (.t 25) (.seq (.reg Q50_5) .ret) (.seq (.reg Q50_6) (.cond (.t 29) (.seq (.reg Q50_7) .ret) (.seq (.reg Q50_8) (.cond (.t 32) (.seq (.reg Q50_9) .ret) .skip))))))))) (.seq (.reg Q50_10) .ret)))), [.tmp 4, .tmp 5]⟩
theorem Q50_ok : compF Try.prog [0, 1, 4, 5, 6, 7] [28, 33, 19, 32, 29, 30, 73] 63 = some Q50 := by kernel_rfl

/- lockless/litmus.strongFence -/
def Q8_0 : Sts := .op (some 0) (.alloc 55 [(.int .i64 0), (.int .i64 0), (.int .i64 0), (.int .i64 0), (.int .i64 0)]) <|
  .nil
def Q8_1 : Sts := .op (some 1) (.build [(.int .i64 0), (.int .i64 0), (.int .i64 0), (.int .i64 0), (.int .i64 0)] [(0, 1, (.c (.int .i64 5))), (4, 1, (.c (.int .i64 4)))]) <|
  .op none (.store 5 (.t 0) (.t 1)) <|
  .nil
def Q8 : RFun := ⟨2, [0], (.seq (.reg Q8_0) (.seq (.reg Q8_1) .ret)), [.cellA 0 5]⟩
theorem Q8_ok : compF Try.prog [0] [28, 33, 19, 32, 29, 30, 73] 64 = some Q8 := by kernel_rfl

/- (*lockless/view.Machine).bound -/
def Q76_0 : Sts := .op (some 6) (.mv (.c (.bool false))) <|
  .nil
def Q76_1 : Sts := .op (some 8) (.mv (.t 0)) <|
  .op (some 9) (.mv (.t 1)) <|
  .op (some 10) (.nilck (.t 8)) <|
  .op (some 11) (.faddr 2 (.t 10)) <|
  .op (some 12) (.iaddrA 3 1 (.t 11) (.t 9)) <|
  .op (some 13) (.loadS (.t 12)) <|
  .op (some 7) (.mv (.t 13)) <|
  .nil
def Q76_2 : AT := .q (.op 0 (some 14) (.mv (.t 2)) <|
  .op 1 (some 15) (.bin .add (.t 14) (.c (.int .i64 1))) <|
  .op 2 (some 16) (.mv (.t 7)) <|
  .op 3 (some 17) (.len (.t 16)) <|
  .op 4 (some 18) (.bin .lss (.t 15) (.t 17)) <|
  .op 5 (some 19) (.mv (.t 18)) <|
  .g 19 true (
  .op 6 (some 20) (.mv (.t 0)) <|
  .op 7 (some 21) (.nilck (.t 20)) <|
  .op 8 (some 22) (.faddr 1 (.t 21)) <|
  .op 9 (some 23) (.loadS (.t 22)) <|
  .op 10 (some 24) (.mv (.t 7)) <|
  .op 11 (some 25) (.mv (.t 2)) <|
  .op 12 (some 26) (.bin .add (.t 25) (.c (.int .i64 1))) <|
  .op 13 (some 27) (.iaddrS 1 (.t 24) (.t 26)) <|
  .op 14 (some 28) (.loadI .i64 (.t 27)) <|
  .op 15 (some 29) (.iaddrS 5 (.t 23) (.t 28)) <|
  .op 16 (some 30) (.faddr 4 (.t 29)) <|
  .op 17 (some 31) (.loadB (.t 30)) <|
  .nil) 18 32 (.t 31) <|
  .op 19 (some 6) (.mv (.t 32)) <|
  .nil) <|
  .fin
def Q76 : RFun := ⟨33, [0, 1, 2, 6, 7], (.seq (.reg Q76_0) (.seq (.reg Q76_1) (.seq (.any Q76_2) .ret))), [.tmp 6]⟩
theorem Q76_ok : compF Try.prog [0, 1, 2, 6, 7] [28, 33, 19, 32, 29, 30, 73] 65 = some Q76 := by kernel_rfl

/- (*lockless/view.Machine).fenced -/
def Q79_0 : Sts := .op (some 5) (.box 55 (.t 2)) <|
  .nil
def Q79_1 : Sts := .op (some 11) (.mv (.t 0)) <|
  .op (some 12) (.nilck (.t 11)) <|
  .op (some 13) (.faddr 5 (.t 12)) <|
  .op (some 14) (.loadS (.t 13)) <|
  .op (some 15) (.mv (.t 1)) <|
  .op (some 16) (.iaddrS 11 (.t 14) (.t 15)) <|
  .op (some 6) (.mv (.t 16)) <|
  .nil
def Q79_2 : Sts := .op (some 18) (.faddr 4 (.t 5)) <|
  .op (some 19) (.loadI .i64 (.t 18)) <|
  .op (some 20) (.call 82 [(.t 19)]) <|
  .op (some 17) (.mv (.t 20)) <|
  .op (some 21) (.extract 0 (.t 17)) <|
  .op (some 22) (.extract 1 (.t 17)) <|
  .op (some 7) (.mv (.t 21)) <|
  .op (some 8) (.mv (.t 22)) <|
  .nil
def Q79_3 : Sts := .op (some 23) (.mv (.t 7)) <|
  .nil
def Q79_4 : AT := .q (.op 0 (some 24) (.mv (.t 6)) <|
  .op 1 (some 25) (.mv (.t 0)) <|
  .op 2 (some 26) (.mv (.t 6)) <|
  .op 3 (some 27) (.nilck (.t 26)) <|
  .op 4 (some 28) (.faddr 0 (.t 27)) <|
  .op 5 (some 29) (.loadA 3 (.t 28)) <|
  .op 6 (some 30) (.mv (.t 6)) <|
  .op 7 (some 31) (.nilck (.t 30)) <|
  .op 8 (some 32) (.faddr 3 (.t 31)) <|
  .op 9 (some 33) (.loadA 3 (.t 32)) <|
  .nil) <|
  .s 10 (some 34) (.call 83 [(.t 25), (.t 29), (.t 33)]) false (
  .q (.op 11 (some 35) (.nilck (.t 24)) <|
  .op 12 (some 36) (.faddr 0 (.t 35)) <|
  .nil) <|
  .s 13 none (.store 3 (.t 36) (.t 34)) true (
  .q (.nil) <|
  .fin) <|
  .no) <|
  .no
def Q79_5 : Sts := .op (some 37) (.faddr 4 (.t 5)) <|
  .op (some 38) (.loadI .i64 (.t 37)) <|
  .op (some 39) (.bin .eql (.t 38) (.c (.int .i64 4))) <|
  .nil
def Q79_6 : AT := .q (.op 0 (some 40) (.mv (.t 6)) <|
  .op 1 (some 41) (.mv (.t 0)) <|
  .op 2 (some 42) (.mv (.t 6)) <|
  .op 3 (some 43) (.nilck (.t 42)) <|
  .op 4 (some 44) (.faddr 0 (.t 43)) <|
  .op 5 (some 45) (.loadA 3 (.t 44)) <|
  .op 6 (some 46) (.mv (.t 0)) <|
  .op 7 (some 47) (.nilck (.t 46)) <|
  .op 8 (some 48) (.faddr 6 (.t 47)) <|
  .op 9 (some 49) (.loadA 3 (.t 48)) <|
  .nil) <|
  .s 10 (some 50) (.call 83 [(.t 41), (.t 45), (.t 49)]) false (
  .q (.op 11 (some 51) (.nilck (.t 40)) <|
  .op 12 (some 52) (.faddr 0 (.t 51)) <|
  .nil) <|
  .s 13 none (.store 3 (.t 52) (.t 50)) true (
  .q (.nil) <|
  .fin) <|
  .no) <|
  .no
def Q79_7 : Sts := .op (some 53) (.mv (.t 0)) <|
  .op (some 54) (.mv (.t 6)) <|
  .op (some 55) (.nilck (.t 54)) <|
  .op (some 56) (.faddr 0 (.t 55)) <|
  .op (some 57) (.loadA 3 (.t 56)) <|
  .op (some 58) (.nilck (.t 53)) <|
  .op (some 59) (.faddr 6 (.t 58)) <|
  .op none (.store 3 (.t 59) (.t 57)) <|
  .nil
def Q79_8 : AT := .q (.op 0 (some 60) (.mv (.t 6)) <|
  .op 1 (some 61) (.mv (.t 0)) <|
  .op 2 (some 62) (.mv (.t 6)) <|
  .op 3 (some 63) (.nilck (.t 62)) <|
  .op 4 (some 64) (.faddr 3 (.t 63)) <|
  .op 5 (some 65) (.loadA 3 (.t 64)) <|
  .op 6 (some 66) (.mv (.t 6)) <|
  .op 7 (some 67) (.nilck (.t 66)) <|
  .op 8 (some 68) (.faddr 0 (.t 67)) <|
  .op 9 (some 69) (.loadA 3 (.t 68)) <|
  .nil) <|
  .s 10 (some 70) (.call 83 [(.t 61), (.t 65), (.t 69)]) false (
  .q (.op 11 (some 71) (.nilck (.t 60)) <|
  .op 12 (some 72) (.faddr 3 (.t 71)) <|
  .nil) <|
  .s 13 none (.store 3 (.t 72) (.t 70)) true (
  .q (.nil) <|
  .fin) <|
  .no) <|
  .no
def Q79_9 : Sts := .op (some 74) (.faddr 4 (.t 5)) <|
  .op (some 75) (.loadI .i64 (.t 74)) <|
  .op (some 76) (.call 84 [(.t 75)]) <|
  .op (some 73) (.mv (.t 76)) <|
  .op (some 77) (.extract 0 (.t 73)) <|
  .op (some 78) (.extract 1 (.t 73)) <|
  .op (some 9) (.mv (.t 77)) <|
  .op (some 10) (.mv (.t 78)) <|
  .nil
def Q79_10 : Sts := .op (some 79) (.mv (.t 9)) <|
  .nil
def Q79_11 : Sts := .op (some 80) (.mv (.t 6)) <|
  .op (some 81) (.mv (.t 6)) <|
  .op (some 82) (.nilck (.t 81)) <|
  .op (some 83) (.faddr 0 (.t 82)) <|
  .op (some 84) (.loadA 3 (.t 83)) <|
  .op (some 85) (.nilck (.t 80)) <|
  .op (some 86) (.faddr 6 (.t 85)) <|
  .op none (.store 3 (.t 86) (.t 84)) <|
  .nil
def Q79 : RFun := ⟨87, [0, 1, 2, 5, 6, 7, 9], (.seq (.reg Q79_0) (.seq (.reg Q79_1) (.seq (.seq (.reg Q79_2) (.seq (.reg Q79_3) (.cond (.t 23) (.any Q79_4) .skip))) (.seq (.seq (.reg Q79_5) (.cond (.t 39) (.seq (.any Q79_6) (.seq (.reg Q79_7) (.any Q79_8))) .skip)) (.seq (.reg Q79_9) (.seq (.reg Q79_10) (.cond (.t 79) (.reg Q79_11) .skip))))))), []⟩
theorem Q79_ok : compF Try.prog [0, 1, 2, 5, 6, 7, 9] [28, 33, 19, 32, 29, 30, 73] 66 = some Q79 := by kernel_rfl

/- (*lockless/view.Machine).reads -/
def Q84_0 : Sts := .op (some 7) (.box 55 (.t 3)) <|
  .nil
def Q84_1 : Sts := .op (some 12) (.mv (.t 0)) <|
  .op (some 13) (.nilck (.t 12)) <|
  .op (some 14) (.faddr 5 (.t 13)) <|
  .op (some 15) (.loadS (.t 14)) <|
  .op (some 16) (.mv (.t 1)) <|
  .op (some 17) (.iaddrS 11 (.t 15) (.t 16)) <|
  .op (some 8) (.mv (.t 17)) <|
  .nil
def Q84_2 : AT := .q (.op 0 (some 18) (.mv (.t 8)) <|
  .op 1 (some 19) (.mv (.t 8)) <|
  .op 2 (some 20) (.nilck (.t 19)) <|
  .op 3 (some 21) (.faddr 9 (.t 20)) <|
  .op 4 (some 22) (.loadS (.t 21)) <|
  .op 5 (some 23) (.mv (.t 0)) <|
  .op 6 (some 24) (.nilck (.t 23)) <|
  .op 7 (some 25) (.faddr 1 (.t 24)) <|
  .op 8 (some 26) (.loadS (.t 25)) <|
  .op 9 (some 27) (.mv (.t 2)) <|
  .op 10 (some 28) (.iaddrS 5 (.t 26) (.t 27)) <|
  .op 11 (some 29) (.faddr 0 (.t 28)) <|
  .op 12 (some 30) (.loadI .i64 (.t 29)) <|
  .nil) <|
  .s 13 (some 31) (.buildSl 3 1 [(.int .i64 0)] [(0, 1, (.t 30))]) false (
  .q (.nil) <|
  .s 14 (some 32) (.append 3 1 8 [(.int .i64 0)] (.t 22) (.t 31)) false (
  .q (.op 15 (some 33) (.nilck (.t 18)) <|
  .op 16 (some 34) (.faddr 9 (.t 33)) <|
  .nil) <|
  .s 17 none (.store 1 (.t 34) (.t 32)) true (
  .q (.nil) <|
  .fin) <|
  .no) <|
  .no) <|
  .no
def Q84_3 : Sts := .op (some 35) (.mv (.t 0)) <|
  .op (some 36) (.nilck (.t 35)) <|
  .op (some 37) (.faddr 1 (.t 36)) <|
  .op (some 38) (.loadS (.t 37)) <|
  .op (some 39) (.mv (.t 2)) <|
  .op (some 40) (.iaddrS 5 (.t 38) (.t 39)) <|
  .op (some 41) (.faddr 1 (.t 40)) <|
  .op (some 42) (.loadA 3 (.t 41)) <|
  .op (some 9) (.alloc 59 [(.int .i64 0), (.int .i64 0), (.int .i64 0)]) <|
  .op none (.store 3 (.t 9) (.t 42)) <|
  .nil
def Q84_4 : AT := .q (.op 0 (some 43) (.mv (.t 8)) <|
  .op 1 (some 44) (.faddr 1 (.t 7)) <|
  .op 2 (some 45) (.loadI .i64 (.t 44)) <|
  .op 3 (some 46) (.mv (.t 2)) <|
  .op 4 (some 47) (.nilck (.t 43)) <|
  .op 5 (some 48) (.faddr 0 (.t 47)) <|
  .op 6 (some 49) (.iaddrA 3 1 (.t 48) (.t 45)) <|
  .nil) <|
  .s 7 none (.store 1 (.t 49) (.t 46)) true (
  .q (.nil) <|
  .fin) <|
  .no
def Q84_5 : Sts := .op (some 51) (.faddr 4 (.t 7)) <|
  .op (some 52) (.loadI .i64 (.t 51)) <|
  .op (some 53) (.call 82 [(.t 52)]) <|
  .op (some 50) (.mv (.t 53)) <|
  .op (some 54) (.extract 0 (.t 50)) <|
  .op (some 55) (.extract 1 (.t 50)) <|
  .op (some 10) (.mv (.t 54)) <|
  .op (some 11) (.mv (.t 55)) <|
  .nil
def Q84_6 : Sts := .op (some 56) (.mv (.t 10)) <|
  .nil
def Q84_7 : AT := .q (.op 0 (some 57) (.mv (.t 8)) <|
  .op 1 (some 58) (.mv (.t 0)) <|
  .op 2 (some 59) (.mv (.t 8)) <|
  .op 3 (some 60) (.nilck (.t 59)) <|
  .op 4 (some 61) (.faddr 0 (.t 60)) <|
  .op 5 (some 62) (.loadA 3 (.t 61)) <|
  .op 6 (some 63) (.loadA 3 (.t 9)) <|
  .nil) <|
  .s 7 (some 64) (.call 83 [(.t 58), (.t 62), (.t 63)]) false (
  .q (.op 8 (some 65) (.nilck (.t 57)) <|
  .op 9 (some 66) (.faddr 0 (.t 65)) <|
  .nil) <|
  .s 10 none (.store 3 (.t 66) (.t 64)) true (
  .q (.nil) <|
  .fin) <|
  .no) <|
  .no
def Q84_8 : AT := .q (.op 0 (some 67) (.mv (.t 8)) <|
  .op 1 (some 68) (.mv (.t 0)) <|
  .op 2 (some 69) (.mv (.t 0)) <|
  .op 3 (some 70) (.mv (.t 8)) <|
  .op 4 (some 71) (.nilck (.t 70)) <|
  .op 5 (some 72) (.faddr 3 (.t 71)) <|
  .op 6 (some 73) (.loadA 3 (.t 72)) <|
  .op 7 (some 74) (.loadA 3 (.t 9)) <|
  .op 9 (some 76) (.mv (.t 8)) <|
  .op 10 (some 77) (.nilck (.t 76)) <|
  .op 11 (some 78) (.faddr 0 (.t 77)) <|
  .op 12 (some 79) (.loadA 3 (.t 78)) <|
  .nil) <|
  .s 8 (some 75) (.call 83 [(.t 69), (.t 73), (.t 74)]) false (
  .q (.nil) <|
  .s 13 (some 80) (.call 83 [(.t 68), (.t 75), (.t 79)]) false (
  .q (.op 14 (some 81) (.nilck (.t 67)) <|
  .op 15 (some 82) (.faddr 3 (.t 81)) <|
  .nil) <|
  .s 16 none (.store 3 (.t 82) (.t 80)) true (
  .q (.nil) <|
  .fin) <|
  .no) <|
  .no) <|
  .no
def Q84 : RFun := ⟨83, [0, 1, 2, 3, 7, 8, 9, 10], (.seq (.reg Q84_0) (.seq (.reg Q84_1) (.seq (.any Q84_2) (.seq (.reg Q84_3) (.seq (.any Q84_4) (.seq (.seq (.reg Q84_5) (.seq (.reg Q84_6) (.cond (.t 56) (.any Q84_7) .skip))) (.any Q84_8))))))), []⟩
theorem Q84_ok : compF Try.prog [0, 1, 2, 3, 7, 8, 9, 10] [28, 33, 19, 32, 29, 30, 73] 67 = some Q84 := by kernel_rfl

/- (*lockless/view.Machine).writes -/
def Q87_0 : Sts := .op (some 10) (.box 55 (.t 4)) <|
  .nil
def Q87_1 : Sts := .op (some 18) (.mv (.t 0)) <|
  .op (some 19) (.nilck (.t 18)) <|
  .op (some 20) (.faddr 5 (.t 19)) <|
  .op (some 21) (.loadS (.t 20)) <|
  .op (some 22) (.mv (.t 1)) <|
  .op (some 23) (.iaddrS 11 (.t 21) (.t 22)) <|
  .op (some 12) (.mv (.t 23)) <|
  .nil
def Q87_2 : Sts := .op (some 24) (.mv (.t 0)) <|
  .op (some 25) (.nilck (.t 24)) <|
  .op (some 26) (.faddr 1 (.t 25)) <|
  .op (some 27) (.loadS (.t 26)) <|
  .op (some 28) (.len (.t 27)) <|
  .op (some 13) (.mv (.t 28)) <|
  .nil
def Q87_3 : AT := .q (.op 0 (some 29) (.mv (.t 0)) <|
  .op 1 (some 30) (.faddr 1 (.t 10)) <|
  .op 2 (some 31) (.loadI .i64 (.t 30)) <|
  .op 3 (some 32) (.nilck (.t 29)) <|
  .op 4 (some 33) (.faddr 2 (.t 32)) <|
  .op 5 (some 34) (.iaddrA 3 1 (.t 33) (.t 31)) <|
  .op 6 (some 35) (.loadS (.t 34)) <|
  .op 7 (some 36) (.mv (.t 2)) <|
  .op 8 (some 37) (.iaddrS 1 (.t 35) (.t 36)) <|
  .op 9 (some 38) (.loadI .i64 (.t 37)) <|
  .op 10 (some 14) (.mv (.t 38)) <|
  .nil) <|
  .fin
def Q87_4 : AT := .q (.op 0 (some 39) (.mv (.t 0)) <|
  .op 1 (some 40) (.faddr 1 (.t 10)) <|
  .op 2 (some 41) (.loadI .i64 (.t 40)) <|
  .op 3 (some 42) (.mv (.t 0)) <|
  .op 4 (some 43) (.faddr 1 (.t 10)) <|
  .op 5 (some 44) (.loadI .i64 (.t 43)) <|
  .op 6 (some 45) (.nilck (.t 42)) <|
  .op 7 (some 46) (.faddr 2 (.t 45)) <|
  .op 8 (some 47) (.iaddrA 3 1 (.t 46) (.t 44)) <|
  .op 9 (some 48) (.loadS (.t 47)) <|
  .op 10 (some 49) (.mv (.t 2)) <|
  .op 11 (some 50) (.bin .add (.t 49) (.c (.int .i64 1))) <|
  .op 12 (some 51) (.mv (.t 13)) <|
  .op 15 (some 54) (.nilck (.t 39)) <|
  .op 16 (some 55) (.faddr 2 (.t 54)) <|
  .nil) <|
  .s 13 (some 52) (.buildSl 3 1 [(.int .i64 0)] [(0, 1, (.t 51))]) false (
  .q (.nil) <|
  .s 14 (some 53) (.call 85 [(.t 48), (.t 50), (.t 52)]) false (
  .q (.op 17 (some 56) (.iaddrA 3 1 (.t 55) (.t 41)) <|
  .nil) <|
  .s 18 none (.store 1 (.t 56) (.t 53)) true (
  .q (.nil) <|
  .fin) <|
  .no) <|
  .no) <|
  .no
def Q87_5 : Sts := .op (some 57) (.mv (.t 0)) <|
  .op (some 58) (.mv (.t 0)) <|
  .op (some 59) (.nilck (.t 58)) <|
  .op (some 60) (.faddr 1 (.t 59)) <|
  .op (some 61) (.loadS (.t 60)) <|
  .op (some 62) (.mv (.t 3)) <|
  .op (some 63) (.mv (.t 5)) <|
  .op (some 64) (.build [(.int .i64 0), (.int .i64 0), (.int .i64 0), (.int .i64 0), (.bool false)] [(0, 1, (.t 62)), (4, 1, (.t 63))]) <|
  .op (some 65) (.buildSl 67 1 [(.int .i64 0), (.int .i64 0), (.int .i64 0), (.int .i64 0), (.bool false)] [(0, 5, (.t 64))]) <|
  .op (some 66) (.append 67 5 40 [(.int .i64 0), (.int .i64 0), (.int .i64 0), (.int .i64 0), (.bool false)] (.t 61) (.t 65)) <|
  .op (some 67) (.nilck (.t 57)) <|
  .op (some 68) (.faddr 1 (.t 67)) <|
  .op none (.store 1 (.t 68) (.t 66)) <|
  .nil
def Q87_6 : AT := .q (.op 0 (some 69) (.mv (.t 12)) <|
  .op 1 (some 70) (.faddr 1 (.t 10)) <|
  .op 2 (some 71) (.loadI .i64 (.t 70)) <|
  .op 3 (some 72) (.mv (.t 13)) <|
  .op 4 (some 73) (.nilck (.t 69)) <|
  .op 5 (some 74) (.faddr 0 (.t 73)) <|
  .op 6 (some 75) (.iaddrA 3 1 (.t 74) (.t 71)) <|
  .nil) <|
  .s 7 none (.store 1 (.t 75) (.t 72)) true (
  .q (.nil) <|
  .fin) <|
  .no
def Q87_7 : AT := .q (.op 0 (some 76) (.mv (.t 12)) <|
  .op 1 (some 77) (.mv (.t 0)) <|
  .op 2 (some 78) (.mv (.t 12)) <|
  .op 3 (some 79) (.nilck (.t 78)) <|
  .op 4 (some 80) (.faddr 3 (.t 79)) <|
  .op 5 (some 81) (.loadA 3 (.t 80)) <|
  .op 6 (some 82) (.mv (.t 12)) <|
  .op 7 (some 83) (.nilck (.t 82)) <|
  .op 8 (some 84) (.faddr 0 (.t 83)) <|
  .op 9 (some 85) (.loadA 3 (.t 84)) <|
  .nil) <|
  .s 10 (some 86) (.call 83 [(.t 77), (.t 81), (.t 85)]) false (
  .q (.op 11 (some 87) (.nilck (.t 76)) <|
  .op 12 (some 88) (.faddr 3 (.t 87)) <|
  .nil) <|
  .s 13 none (.store 3 (.t 88) (.t 86)) true (
  .q (.nil) <|
  .fin) <|
  .no) <|
  .no
def Q87_8 : Sts := .op (some 89) (.mv (.t 12)) <|
  .op (some 90) (.nilck (.t 89)) <|
  .op (some 91) (.faddr 6 (.t 90)) <|
  .op (some 92) (.loadA 3 (.t 91)) <|
  .op (some 15) (.alloc 59 [(.int .i64 0), (.int .i64 0), (.int .i64 0)]) <|
  .op none (.store 3 (.t 15) (.t 92)) <|
  .nil
def Q87_9 : Sts := .op (some 94) (.faddr 4 (.t 10)) <|
  .op (some 95) (.loadI .i64 (.t 94)) <|
  .op (some 96) (.call 84 [(.t 95)]) <|
  .op (some 93) (.mv (.t 96)) <|
  .op (some 97) (.extract 0 (.t 93)) <|
  .op (some 98) (.extract 1 (.t 93)) <|
  .op (some 16) (.mv (.t 97)) <|
  .op (some 17) (.mv (.t 98)) <|
  .nil
def Q87_10 : Sts := .op (some 99) (.mv (.t 16)) <|
  .nil
def Q87_11 : Sts := .op (some 100) (.mv (.t 12)) <|
  .op (some 101) (.nilck (.t 100)) <|
  .op (some 102) (.faddr 0 (.t 101)) <|
  .op (some 103) (.loadA 3 (.t 102)) <|
  .op none (.store 3 (.t 15) (.t 103)) <|
  .nil
def Q87_12 : Sts := .op (some 104) (.mv (.t 5)) <|
  .nil
def Q87_13 : AT := .q (.op 0 (some 105) (.mv (.t 0)) <|
  .op 1 (some 106) (.loadA 3 (.t 15)) <|
  .op 2 (some 107) (.mv (.t 0)) <|
  .op 3 (some 108) (.nilck (.t 107)) <|
  .op 4 (some 109) (.faddr 1 (.t 108)) <|
  .op 5 (some 110) (.loadS (.t 109)) <|
  .op 6 (some 111) (.mv (.t 14)) <|
  .op 7 (some 112) (.iaddrS 5 (.t 110) (.t 111)) <|
  .op 8 (some 113) (.faddr 1 (.t 112)) <|
  .op 9 (some 114) (.loadA 3 (.t 113)) <|
  .nil) <|
  .s 10 (some 115) (.call 83 [(.t 105), (.t 106), (.t 114)]) true (
  .q (.nil) <|
  .s 11 none (.store 3 (.t 15) (.t 115)) true (
  .q (.nil) <|
  .fin) <|
  .no) <|
  .no
def Q87_14 : Sts := .op (some 116) (.faddr 1 (.t 10)) <|
  .op (some 117) (.loadI .i64 (.t 116)) <|
  .op (some 118) (.mv (.t 13)) <|
  .op (some 119) (.iaddrA 3 1 (.t 15) (.t 117)) <|
  .op none (.store 1 (.t 119) (.t 118)) <|
  .nil
def Q87_15 : AT := .q (.op 0 (some 120) (.mv (.t 0)) <|
  .op 1 (some 121) (.nilck (.t 120)) <|
  .op 2 (some 122) (.faddr 1 (.t 121)) <|
  .op 3 (some 123) (.loadS (.t 122)) <|
  .op 4 (some 124) (.mv (.t 13)) <|
  .op 5 (some 125) (.loadA 3 (.t 15)) <|
  .op 6 (some 126) (.iaddrS 5 (.t 123) (.t 124)) <|
  .op 7 (some 127) (.faddr 1 (.t 126)) <|
  .nil) <|
  .s 8 none (.store 3 (.t 127) (.t 125)) true (
  .q (.nil) <|
  .fin) <|
  .no
def Q87 : RFun := ⟨128, [0, 1, 2, 3, 4, 5, 10, 12, 13, 14, 15, 16], (.seq (.reg Q87_0) (.seq (.reg Q87_1) (.seq (.reg Q87_2) (.seq (.any Q87_3) (.seq (.any Q87_4) (.seq (.reg Q87_5) (.seq (.any Q87_6) (.seq (.any Q87_7) (.seq (.reg Q87_8) (.seq (.seq (.reg Q87_9) (.seq (.reg Q87_10) (.cond (.t 99) (.reg Q87_11) .skip))) (.seq (.seq (.reg Q87_12) (.cond (.t 104) (.any Q87_13) .skip)) (.seq (.reg Q87_14) (.any Q87_15))))))))))))), []⟩
theorem Q87_ok : compF Try.prog [0, 1, 2, 3, 4, 5, 10, 12, 13, 14, 15, 16] [28, 33, 19, 32, 29, 30, 73] 68 = some Q87 := by kernel_rfl

/- slices.Index[[]int,int] -/
def Q61_0 : Sts := .op (some 4) (.mv (.c (.int .i64 0))) <|
  .nil
def Q61_1 : Sts := .op (some 6) (.mv (.t 0)) <|
  .op (some 7) (.len (.t 6)) <|
  .op (some 8) (.mv (.c (.int .i64 0))) <|
  .nil
def Q61_2 : Sts := .op (some 9) (.bin .lss (.t 8) (.t 7)) <|
  .nil
def Q61_3 : Sts := .op (some 10) (.mv (.t 8)) <|
  .op (some 5) (.mv (.t 10)) <|
  .nil
def Q61_4 : Sts := .op (some 11) (.mv (.t 1)) <|
  .op (some 12) (.mv (.t 0)) <|
  .op (some 13) (.mv (.t 5)) <|
  .op (some 14) (.iaddrS 1 (.t 12) (.t 13)) <|
  .op (some 15) (.loadI .i64 (.t 14)) <|
  .op (some 16) (.bin .eql (.t 11) (.t 15)) <|
  .nil
def Q61_5 : Sts := .op (some 17) (.mv (.t 5)) <|
  .op (some 4) (.mv (.t 17)) <|
  .nil
def Q61_6 : Sts := .op (some 18) (.bin .add (.t 8) (.c (.int .i64 1))) <|
  .op (some 8) (.mv (.t 18)) <|
  .nil
def Q61_L7 : RCode := (.seq (.reg Q61_2) (.seq (.cond (.t 9) .skip (.exit 0)) (.seq (.block 1 (.seq (.reg Q61_3) (.seq (.reg Q61_4) (.cond (.t 16) (.seq (.reg Q61_5) .ret) .skip)))) (.reg Q61_6))))
def Q61_7 : Sts := .op (some 4) (.mv (.c (.int .i64 (-1)))) <|
  .nil
def Q61 : RFun := ⟨19, [0, 1, 4, 5, 7, 8], (.seq (.reg Q61_0) (.seq (.seq (.reg Q61_1) (.block 0 (.loop Q61_L7))) (.seq (.reg Q61_7) .ret))), [.tmp 4]⟩
theorem Q61_ok : compF Try.prog [0, 1, 4, 5, 7, 8] [28, 33, 19, 32, 29, 30, 73] 69 = some Q61 := by kernel_rfl

/- (*lockless/locklessref05.Machine).isThread -/
def Q37_0 : Sts := .op (some 4) (.mv (.c (.bool false))) <|
  .nil
def Q37_1 : Sts := .op (some 5) (.mv (.t 0)) <|
  .op (some 6) (.eqp true (.t 5)) <|
  .op (some 7) (.mv (.t 6)) <|
  .cnd 7 true (
  .op (some 8) (.mv (.t 1)) <|
  .op (some 9) (.bin .geq (.t 8) (.c (.int .i64 0))) <|
  .nil) 10 (.t 9) <|
  .op (some 11) (.mv (.t 10)) <|
  .cnd 11 true (
  .op (some 12) (.mv (.t 1)) <|
  .op (some 13) (.mv (.t 0)) <|
  .op (some 14) (.nilck (.t 13)) <|
  .op (some 15) (.faddr 1 (.t 14)) <|
  .op (some 16) (.loadS (.t 15)) <|
  .op (some 17) (.len (.t 16)) <|
  .op (some 18) (.bin .lss (.t 12) (.t 17)) <|
  .nil) 19 (.t 18) <|
  .op (some 4) (.mv (.t 19)) <|
  .nil
def Q37 : RFun := ⟨20, [0, 1, 4], (.seq (.reg Q37_0) (.seq (.reg Q37_1) .ret)), [.tmp 4]⟩
theorem Q37_ok : compF Try.prog [0, 1, 4] [28, 33, 19, 32, 29, 30, 73] 70 = some Q37 := by kernel_rfl

/- lockless/locklessref03.Check -/
def Q20_0 : Sts := .op (some 1) (.box 24 (.t 0)) <|
  .op (some 2) (.mv (.c (.int .i64 0))) <|
  .nil
def Q20_1 : Sts := .op (some 3) (.mv (.c (.int .i64 0))) <|
  .nil
def Q20_2 : Sts := .op (some 4) (.mv (.c (.int .i64 0))) <|
  .nil
def Q20_3 : Sts := .op (some 11) (.makeSl 3 1 8 [(.int .i64 0)] (.c (.int .i64 3)) (.c (.int .i64 3))) <|
  .op (some 5) (.mv (.t 11)) <|
  .nil
def Q20_4 : Sts := .op (some 12) (.faddr 0 (.t 1)) <|
  .op (some 13) (.loadS (.t 12)) <|
  .op (some 14) (.len (.t 13)) <|
  .op (some 15) (.bin .gtr (.t 14) (.c (.int .i64 0))) <|
  .op (some 6) (.mv (.t 15)) <|
  .nil
def Q20_5 : Sts := .op (some 7) (.mv (.c (.int .i64 0))) <|
  .nil
def Q20_6 : Sts := .op (some 16) (.mv (.t 7)) <|
  .op (some 17) (.faddr 0 (.t 1)) <|
  .op (some 18) (.loadS (.t 17)) <|
  .op (some 19) (.len (.t 18)) <|
  .op (some 20) (.bin .lss (.t 16) (.t 19)) <|
  .nil
def Q20_7 : Sts := .op (some 8) (.mv (.c (.int .i64 0))) <|
  .nil
def Q20_8 : Sts := .op (some 23) (.mv (.t 8)) <|
  .op (some 24) (.faddr 0 (.t 1)) <|
  .op (some 25) (.loadS (.t 24)) <|
  .op (some 26) (.mv (.t 7)) <|
  .op (some 27) (.iaddrS 1 (.t 25) (.t 26)) <|
  .op (some 28) (.loadS (.t 27)) <|
  .op (some 29) (.len (.t 28)) <|
  .op (some 30) (.bin .lss (.t 23) (.t 29)) <|
  .nil
def Q20_9 : Sts := .op (some 33) (.faddr 0 (.t 1)) <|
  .op (some 34) (.loadS (.t 33)) <|
  .op (some 35) (.mv (.t 7)) <|
  .op (some 36) (.iaddrS 1 (.t 34) (.t 35)) <|
  .op (some 37) (.loadS (.t 36)) <|
  .op (some 38) (.mv (.t 8)) <|
  .op (some 39) (.iaddrS 5 (.t 37) (.t 38)) <|
  .op (some 40) (.loadA 5 (.t 39)) <|
  .op (some 9) (.alloc 55 [(.int .i64 0), (.int .i64 0), (.int .i64 0), (.int .i64 0), (.int .i64 0)]) <|
  .op none (.store 5 (.t 9) (.t 40)) <|
  .nil
def Q20_10 : Sts := .op (some 41) (.mv (.t 6)) <|
  .op (some 42) (.mv (.t 41)) <|
  .cnd 42 true (
  .op (some 43) (.loadA 5 (.t 9)) <|
  .op (some 44) (.call 86 [(.t 43)]) <|
  .nil) 45 (.t 44) <|
  .op (some 6) (.mv (.t 45)) <|
  .nil
def Q20_11 : Sts := .op (some 46) (.faddr 0 (.t 9)) <|
  .op (some 47) (.loadI .i64 (.t 46)) <|
  .op (some 48) (.bin .eql (.t 47) (.c (.int .i64 5))) <|
  .nil
def Q20_12 : Sts := .op (some 49) (.mv (.t 4)) <|
  .op (some 50) (.bin .add (.t 49) (.c (.int .i64 1))) <|
  .op (some 4) (.mv (.t 50)) <|
  .nil
def Q20_13 : Sts := .op (some 51) (.loadA 5 (.t 9)) <|
  .op (some 52) (.call 87 [(.t 51)]) <|
  .op (some 53) (.notb (.t 52)) <|
  .nil
def Q20_14 : Sts := .op (some 54) (.mv (.t 3)) <|
  .op (some 55) (.bin .add (.t 54) (.c (.int .i64 1))) <|
  .op (some 3) (.mv (.t 55)) <|
  .nil
def Q20_15 : Sts := .op (some 56) (.faddr 4 (.t 9)) <|
  .op (some 57) (.loadI .i64 (.t 56)) <|
  .op (some 58) (.bin .eql (.t 57) (.c (.int .i64 4))) <|
  .nil
def Q20_16 : Sts := .op (some 59) (.mv (.t 4)) <|
  .op (some 60) (.bin .add (.t 59) (.c (.int .i64 2))) <|
  .op (some 4) (.mv (.t 60)) <|
  .nil
def Q20_17 : Sts := .op (some 61) (.faddr 0 (.t 9)) <|
  .op (some 62) (.loadI .i64 (.t 61)) <|
  .op (some 63) (.bin .gtr (.t 62) (.c (.int .i64 0))) <|
  .op (some 64) (.mv (.t 63)) <|
  .cnd 64 true (
  .op (some 65) (.faddr 1 (.t 9)) <|
  .op (some 66) (.loadI .i64 (.t 65)) <|
  .op (some 67) (.bin .geq (.t 66) (.c (.int .i64 0))) <|
  .nil) 68 (.t 67) <|
  .op (some 69) (.mv (.t 68)) <|
  .cnd 69 true (
  .op (some 70) (.faddr 1 (.t 9)) <|
  .op (some 71) (.loadI .i64 (.t 70)) <|
  .op (some 72) (.bin .lss (.t 71) (.c (.int .i64 3))) <|
  .nil) 73 (.t 72) <|
  .nil
def Q20_18 : AT := .q (.op 0 (some 74) (.mv (.t 5)) <|
  .op 1 (some 75) (.faddr 1 (.t 9)) <|
  .op 2 (some 76) (.loadI .i64 (.t 75)) <|
  .op 3 (some 77) (.mv (.t 5)) <|
  .op 4 (some 78) (.faddr 1 (.t 9)) <|
  .op 5 (some 79) (.loadI .i64 (.t 78)) <|
  .op 6 (some 80) (.iaddrS 1 (.t 77) (.t 79)) <|
  .op 7 (some 81) (.loadI .i64 (.t 80)) <|
  .op 8 (some 82) (.bin .add (.t 81) (.c (.int .i64 1))) <|
  .op 9 (some 83) (.iaddrS 1 (.t 74) (.t 76)) <|
  .nil) <|
  .s 10 none (.store 1 (.t 83) (.t 82)) true (
  .q (.nil) <|
  .fin) <|
  .no
def Q20_19 : Sts := .op (some 31) (.mv (.t 8)) <|
  .op (some 32) (.bin .add (.t 31) (.c (.int .i64 1))) <|
  .op (some 8) (.mv (.t 32)) <|
  .nil
def Q20_L20 : RCode := (.seq (.seq (.reg Q20_8) (.cond (.t 30) .skip (.exit 2))) (.seq (.block 3 (.seq (.reg Q20_9) (.seq (.reg Q20_10) (.seq (.seq (.reg Q20_11) (.cond (.t 48) (.reg Q20_12) .skip)) (.seq (.seq (.reg Q20_13) (.cond (.t 53) (.exit 3) .skip)) (.seq (.reg Q20_14) (.seq (.seq (.reg Q20_15) (.cond (.t 58) (.reg Q20_16) .skip)) (.seq (.reg Q20_17) (.cond (.t 73) (.any Q20_18) .skip))))))))) (.reg Q20_19)))
def Q20_20 : Sts := .op (some 21) (.mv (.t 7)) <|
  .op (some 22) (.bin .add (.t 21) (.c (.int .i64 1))) <|
  .op (some 7) (.mv (.t 22)) <|
  .nil
def Q20_L21 : RCode := (.seq (.seq (.reg Q20_6) (.cond (.t 20) .skip (.exit 0))) (.seq (.block 1 (.seq (.reg Q20_7) (.block 2 (.loop Q20_L20)))) (.reg Q20_20)))
def Q20_21 : Sts := .op (some 84) (.faddr 0 (.t 1)) <|
  .op (some 85) (.loadS (.t 84)) <|
  .op (some 86) (.len (.t 85)) <|
  .op (some 87) (.bin .gtr (.t 86) (.c (.int .i64 3))) <|
  .op (some 88) (.mv (.t 87)) <|
  .cnd 88 false (
  .op (some 89) (.mv (.t 3)) <|
  .op (some 90) (.bin .gtr (.t 89) (.c (.int .i64 6))) <|
  .nil) 91 (.t 90) <|
  .op (some 92) (.mv (.t 91)) <|
  .cnd 92 false (
  .op (some 93) (.mv (.t 4)) <|
  .op (some 94) (.bin .gtr (.t 93) (.c (.int .i64 8))) <|
  .nil) 95 (.t 94) <|
  .nil
def Q20_22 : Sts := .op (some 2) (.mv (.c (.int .i64 2))) <|
  .nil
def Q20_23 : Sts := .op (some 10) (.mv (.c (.int .i64 0))) <|
  .nil
def Q20_24 : Sts := .op (some 96) (.mv (.t 10)) <|
  .op (some 97) (.mv (.t 5)) <|
  .op (some 98) (.len (.t 97)) <|
  .op (some 99) (.bin .lss (.t 96) (.t 98)) <|
  .nil
def Q20_25 : Sts := .op (some 102) (.mv (.t 5)) <|
  .op (some 103) (.mv (.t 10)) <|
  .op (some 104) (.iaddrS 1 (.t 102) (.t 103)) <|
  .op (some 105) (.loadI .i64 (.t 104)) <|
  .op (some 106) (.bin .gtr (.t 105) (.c (.int .i64 4))) <|
  .nil
def Q20_26 : Sts := .op (some 2) (.mv (.c (.int .i64 2))) <|
  .nil
def Q20_27 : Sts := .op (some 100) (.mv (.t 10)) <|
  .op (some 101) (.bin .add (.t 100) (.c (.int .i64 1))) <|
  .op (some 10) (.mv (.t 101)) <|
  .nil
def Q20_L28 : RCode := (.seq (.seq (.reg Q20_24) (.cond (.t 99) .skip (.exit 4))) (.seq (.block 5 (.seq (.reg Q20_25) (.cond (.t 106) (.seq (.reg Q20_26) .ret) .skip))) (.reg Q20_27)))
def Q20_28 : Sts := .op (some 107) (.mv (.t 6)) <|
  .op (some 108) (.notb (.t 107)) <|
  .nil
def Q20_29 : Sts := .op (some 2) (.mv (.c (.int .i64 1))) <|
  .nil
def Q20_30 : Sts := .op (some 2) (.mv (.c (.int .i64 0))) <|
  .nil
def Q20 : RFun := ⟨109, [0, 1, 2, 3, 4, 5, 6, 7, 8, 9, 10], (.seq (.reg Q20_0) (.seq (.reg Q20_1) (.seq (.reg Q20_2) (.seq (.reg Q20_3) (.seq (.reg Q20_4) (.seq (.seq (.reg Q20_5) (.block 0 (.loop Q20_L21))) (.seq (.seq (.reg Q20_21) (.cond (.t 95) (.seq (.reg Q20_22) .ret) .skip)) (.seq (.seq (.reg Q20_23) (.block 4 (.loop Q20_L28))) (.seq (.seq (.reg Q20_28) (.cond (.t 108) (.seq (.reg Q20_29) .ret) .skip)) (.seq (.reg Q20_30) .ret)))))))))), [.tmp 2]⟩
theorem Q20_ok : compF Try.prog [0, 1, 2, 3, 4, 5, 6, 7, 8, 9, 10] [28, 33, 19, 32, 29, 30, 73] 71 = some Q20 := by kernel_rfl

/- lockless/locklessref03.plain -/
def Q27_0 : Sts := .op (some 1) (.box 55 (.t 0)) <|
  .op (some 2) (.mv (.c (.int .i64 0))) <|
  .nil
def Q27_1 : Sts := .op (some 3) (.faddr 4 (.t 1)) <|
  .op (some 4) (.loadI .i64 (.t 3)) <|
  .op (some 5) (.bin .neq (.t 4) (.c (.int .i64 4))) <|
  .nil
def Q27_2 : Sts := .op (some 6) (.faddr 4 (.t 1)) <|
  .op (some 7) (.loadI .i64 (.t 6)) <|
  .op (some 2) (.mv (.t 7)) <|
  .nil
def Q27_3 : Sts := .op (some 8) (.faddr 0 (.t 1)) <|
  .op (some 9) (.loadI .i64 (.t 8)) <|
  .op (some 10) (.bin .eql (.t 9) (.c (.int .i64 0))) <|
  .nil
def Q27_4 : Sts := .op (some 2) (.mv (.c (.int .i64 1))) <|
  .nil
def Q27_5 : Sts := .op (some 11) (.faddr 0 (.t 1)) <|
  .op (some 12) (.loadI .i64 (.t 11)) <|
  .op (some 13) (.bin .eql (.t 12) (.c (.int .i64 1))) <|
  .nil
def Q27_6 : Sts := .op (some 2) (.mv (.c (.int .i64 2))) <|
  .nil
def Q27_7 : Sts := .op (some 2) (.mv (.c (.int .i64 3))) <|
  .nil
def Q27 : RFun := ⟨14, [0, 1, 2], (.seq (.reg Q27_0) (.seq (.seq (.reg Q27_1) (.cond (.t 5) (.seq (.reg Q27_2) .ret) .skip)) (.seq (.seq (.reg Q27_3) (.cond (.t 10) (.seq (.reg Q27_4) .ret) .skip)) (.seq (.seq (.reg Q27_5) (.cond (.t 13) (.seq (.reg Q27_6) .ret) .skip)) (.seq (.reg Q27_7) .ret))))), [.tmp 2]⟩
theorem Q27_ok : compF Try.prog [0, 1, 2] [28, 33, 19, 32, 29, 30, 73] 72 = some Q27 := by kernel_rfl

/- (*lockless/locklessref05.Machine).place -/
def Q39_0 : Sts := .op (some 6) (.mv (.c (.int .i64 0))) <|
  .nil
def Q39_1 : Sts := .op (some 7) (.mv (.c (.int .i64 0))) <|
  .nil
def Q39_2 : Sts := .op (some 8) (.mv (.t 7)) <|
  .op (some 9) (.mv (.t 0)) <|
  .op (some 10) (.nilck (.t 9)) <|
  .op (some 11) (.faddr 3 (.t 10)) <|
  .op (some 12) (.loadS (.t 11)) <|
  .op (some 13) (.mv (.t 1)) <|
  .op (some 14) (.iaddrS 1 (.t 12) (.t 13)) <|
  .op (some 15) (.loadS (.t 14)) <|
  .op (some 16) (.len (.t 15)) <|
  .op (some 17) (.bin .lss (.t 8) (.t 16)) <|
  .nil
def Q39_3 : Sts := .op (some 20) (.mv (.t 0)) <|
  .op (some 21) (.nilck (.t 20)) <|
  .op (some 22) (.faddr 3 (.t 21)) <|
  .op (some 23) (.loadS (.t 22)) <|
  .op (some 24) (.mv (.t 1)) <|
  .op (some 25) (.iaddrS 1 (.t 23) (.t 24)) <|
  .op (some 26) (.loadS (.t 25)) <|
  .op (some 27) (.mv (.t 7)) <|
  .op (some 28) (.iaddrS 4 (.t 26) (.t 27)) <|
  .op (some 29) (.faddr 0 (.t 28)) <|
  .op (some 30) (.loadI .i64 (.t 29)) <|
  .op (some 31) (.mv (.t 2)) <|
  .op (some 32) (.bin .eql (.t 30) (.t 31)) <|
  .nil
def Q39_4 : Sts := .op (some 33) (.mv (.t 7)) <|
  .op (some 6) (.mv (.t 33)) <|
  .nil
def Q39_5 : Sts := .op (some 18) (.mv (.t 7)) <|
  .op (some 19) (.bin .add (.t 18) (.c (.int .i64 1))) <|
  .op (some 7) (.mv (.t 19)) <|
  .nil
def Q39_L6 : RCode := (.seq (.seq (.reg Q39_2) (.cond (.t 17) .skip (.exit 0))) (.seq (.block 1 (.seq (.reg Q39_3) (.cond (.t 32) (.seq (.reg Q39_4) .ret) .skip))) (.reg Q39_5)))
def Q39_6 : Sts := .op (some 6) (.mv (.c (.int .i64 0))) <|
  .nil
def Q39 : RFun := ⟨34, [0, 1, 2, 6, 7], (.seq (.reg Q39_0) (.seq (.seq (.reg Q39_1) (.block 0 (.loop Q39_L6))) (.seq (.reg Q39_6) .ret))), [.tmp 6]⟩
theorem Q39_ok : compF Try.prog [0, 1, 2, 6, 7] [28, 33, 19, 32, 29, 30, 73] 73 = some Q39 := by kernel_rfl

/- (*lockless/locklessref05.Machine).tiedTo -/
def Q41_0 : Sts := .op (some 6) (.mv (.c (.bool false))) <|
  .nil
def Q41_1 : Sts := .op (some 8) (.mv (.t 0)) <|
  .op (some 9) (.nilck (.t 8)) <|
  .op (some 10) (.faddr 3 (.t 9)) <|
  .op (some 11) (.loadS (.t 10)) <|
  .op (some 12) (.mv (.t 1)) <|
  .op (some 13) (.iaddrS 1 (.t 11) (.t 12)) <|
  .op (some 14) (.loadS (.t 13)) <|
  .op (some 7) (.mv (.t 14)) <|
  .nil
def Q41_2 : Sts := .op (some 15) (.mv (.t 2)) <|
  .op (some 16) (.bin .add (.t 15) (.c (.int .i64 1))) <|
  .op (some 17) (.mv (.t 7)) <|
  .op (some 18) (.len (.t 17)) <|
  .op (some 19) (.bin .lss (.t 16) (.t 18)) <|
  .op (some 20) (.mv (.t 19)) <|
  .cnd 20 true (
  .op (some 21) (.mv (.t 7)) <|
  .op (some 22) (.mv (.t 2)) <|
  .op (some 23) (.bin .add (.t 22) (.c (.int .i64 1))) <|
  .op (some 24) (.iaddrS 4 (.t 21) (.t 23)) <|
  .op (some 25) (.faddr 3 (.t 24)) <|
  .op (some 26) (.loadB (.t 25)) <|
  .nil) 27 (.t 26) <|
  .op (some 6) (.mv (.t 27)) <|
  .nil
def Q41 : RFun := ⟨28, [0, 1, 2, 6, 7], (.seq (.reg Q41_0) (.seq (.reg Q41_1) (.seq (.reg Q41_2) .ret))), [.tmp 6]⟩
theorem Q41_ok : compF Try.prog [0, 1, 2, 6, 7] [28, 33, 19, 32, 29, 30, 73] 74 = some Q41 := by kernel_rfl

/- lockless/locklessref01.Copy -/
def Q17_0 : Sts := .op (some 2) (.mv (.c (.slice none 0 0))) <|
  .nil
def Q17_1 : Sts := .op (some 3) (.buildSl 3 0 [] []) <|
  .op (some 4) (.mv (.t 0)) <|
  .op (some 5) (.append 3 1 8 [(.int .i64 0)] (.t 3) (.t 4)) <|
  .op (some 2) (.mv (.t 5)) <|
  .nil
def Q17 : RFun := ⟨6, [0, 2], (.seq (.reg Q17_0) (.seq (.reg Q17_1) .ret)), [.tmp 2]⟩
theorem Q17_ok : compF Try.prog [0, 2] [28, 33, 19, 32, 29, 30, 73] 75 = some Q17 := by kernel_rfl

/- lockless/locklessref05.releases -/
def Q47_0 : Sts := .op (some 2) (.mv (.c (.bool false))) <|
  .nil
def Q47_1 : Sts := .op (some 3) (.mv (.t 0)) <|
  .op (some 4) (.bin .eql (.t 3) (.c (.int .i64 2))) <|
  .op (some 5) (.mv (.t 4)) <|
  .cnd 5 false (
  .op (some 6) (.mv (.t 0)) <|
  .op (some 7) (.bin .eql (.t 6) (.c (.int .i64 3))) <|
  .nil) 8 (.t 7) <|
  .op (some 9) (.mv (.t 8)) <|
  .cnd 9 false (
  .op (some 10) (.mv (.t 0)) <|
  .op (some 11) (.bin .eql (.t 10) (.c (.int .i64 4))) <|
  .nil) 12 (.t 11) <|
  .op (some 2) (.mv (.t 12)) <|
  .nil
def Q47 : RFun := ⟨13, [0, 2], (.seq (.reg Q47_0) (.seq (.reg Q47_1) .ret)), [.tmp 2]⟩
theorem Q47_ok : compF Try.prog [0, 2] [28, 33, 19, 32, 29, 30, 73] 76 = some Q47 := by kernel_rfl

/- (*lockless/locklessref05.Machine).put -/
def Q40_0 : Sts := .op (some 7) (.box 86 (.t 3)) <|
  .nil
def Q40_1 : Sts := .op (some 8) (.mv (.c (.slice none 0 0))) <|
  .nil
def Q40_2 : Sts := .op (some 9) (.mv (.t 8)) <|
  .op (some 10) (.mv (.t 0)) <|
  .op (some 11) (.nilck (.t 10)) <|
  .op (some 12) (.faddr 3 (.t 11)) <|
  .op (some 13) (.loadS (.t 12)) <|
  .op (some 14) (.mv (.t 1)) <|
  .op (some 15) (.iaddrS 1 (.t 13) (.t 14)) <|
  .op (some 16) (.loadS (.t 15)) <|
  .op (some 17) (.mv (.t 2)) <|
  .op (some 18) (.slS 4 (.t 16) none (some (.t 17)) none) <|
  .op (some 19) (.append 86 4 48 [(.int .i64 0), (.int .i64 0), (.slice none 0 0), (.bool false)] (.t 9) (.t 18)) <|
  .op (some 8) (.mv (.t 19)) <|
  .nil
def Q40_3 : Sts := .op (some 20) (.mv (.t 8)) <|
  .op (some 21) (.loadA 4 (.t 7)) <|
  .op (some 22) (.buildSl 86 1 [(.int .i64 0), (.int .i64 0), (.slice none 0 0), (.bool false)] [(0, 4, (.t 21))]) <|
  .op (some 23) (.append 86 4 48 [(.int .i64 0), (.int .i64 0), (.slice none 0 0), (.bool false)] (.t 20) (.t 22)) <|
  .op (some 8) (.mv (.t 23)) <|
  .nil
def Q40_4 : AT := .q (.op 0 (some 24) (.mv (.t 0)) <|
  .op 1 (some 25) (.nilck (.t 24)) <|
  .op 2 (some 26) (.faddr 3 (.t 25)) <|
  .op 3 (some 27) (.loadS (.t 26)) <|
  .op 4 (some 28) (.mv (.t 1)) <|
  .op 5 (some 29) (.mv (.t 8)) <|
  .op 6 (some 30) (.mv (.t 0)) <|
  .op 7 (some 31) (.nilck (.t 30)) <|
  .op 8 (some 32) (.faddr 3 (.t 31)) <|
  .op 9 (some 33) (.loadS (.t 32)) <|
  .op 10 (some 34) (.mv (.t 1)) <|
  .op 11 (some 35) (.iaddrS 1 (.t 33) (.t 34)) <|
  .op 12 (some 36) (.loadS (.t 35)) <|
  .op 13 (some 37) (.mv (.t 2)) <|
  .op 14 (some 38) (.slS 4 (.t 36) (some (.t 37)) none none) <|
  .nil) <|
  .s 15 (some 39) (.append 86 4 48 [(.int .i64 0), (.int .i64 0), (.slice none 0 0), (.bool false)] (.t 29) (.t 38)) false (
  .q (.op 16 (some 40) (.iaddrS 1 (.t 27) (.t 28)) <|
  .nil) <|
  .s 17 none (.store 1 (.t 40) (.t 39)) true (
  .q (.nil) <|
  .fin) <|
  .no) <|
  .no
def Q40 : RFun := ⟨41, [0, 1, 2, 3, 7, 8], (.seq (.reg Q40_0) (.seq (.reg Q40_1) (.seq (.reg Q40_2) (.seq (.reg Q40_3) (.any Q40_4))))), []⟩
theorem Q40_ok : compF Try.prog [0, 1, 2, 3, 7, 8] [28, 33, 19, 32, 29, 30, 73] 77 = some Q40 := by kernel_rfl

/- slices.IndexFunc[[]int,int] -/
def Q60_0 : Sts := .op (some 4) (.mv (.c (.int .i64 0))) <|
  .nil
def Q60_1 : Sts := .op (some 6) (.mv (.t 0)) <|
  .op (some 7) (.len (.t 6)) <|
  .op (some 8) (.mv (.c (.int .i64 0))) <|
  .nil
def Q60_2 : Sts := .op (some 9) (.bin .lss (.t 8) (.t 7)) <|
  .nil
def Q60_3 : Sts := .op (some 10) (.mv (.t 8)) <|
  .op (some 5) (.mv (.t 10)) <|
  .nil
def Q60_4 : Sts := .op (some 11) (.mv (.t 1)) <|
  .op (some 12) (.mv (.t 0)) <|
  .op (some 13) (.mv (.t 5)) <|
  .op (some 14) (.iaddrS 1 (.t 12) (.t 13)) <|
  .op (some 15) (.loadI .i64 (.t 14)) <|
  .op (some 16) (.callv (.t 11) [(.t 15)]) <|
  .nil
def Q60_5 : Sts := .op (some 17) (.mv (.t 5)) <|
  .op (some 4) (.mv (.t 17)) <|
  .nil
def Q60_6 : Sts := .op (some 18) (.bin .add (.t 8) (.c (.int .i64 1))) <|
  .op (some 8) (.mv (.t 18)) <|
  .nil
def Q60_L7 : RCode := (.seq (.reg Q60_2) (.seq (.cond (.t 9) .skip (.exit 0)) (.seq (.block 1 (.seq (.reg Q60_3) (.seq (.reg Q60_4) (.cond (.t 16) (.seq (.reg Q60_5) .ret) .skip)))) (.reg Q60_6))))
def Q60_7 : Sts := .op (some 4) (.mv (.c (.int .i64 (-1)))) <|
  .nil
def Q60 : RFun := ⟨19, [0, 1, 4, 5, 7, 8], (.seq (.reg Q60_0) (.seq (.seq (.reg Q60_1) (.block 0 (.loop Q60_L7))) (.seq (.reg Q60_7) .ret))), [.tmp 4]⟩
theorem Q60_ok : compF Try.prog [0, 1, 4, 5, 7, 8] [28, 33, 19, 32, 29, 30, 73] 78 = some Q60 := by kernel_rfl

/- lockless/litmus.limits -/
def Q6_0 : Sts := .op (some 1) (.box 24 (.t 0)) <|
  .op (some 2) (.mv (.c (.bool false))) <|
  .nil
def Q6_1 : Sts := .op (some 10) (.faddr 0 (.t 1)) <|
  .op (some 11) (.loadS (.t 10)) <|
  .op (some 12) (.len (.t 11)) <|
  .op (some 13) (.bin .gtr (.t 12) (.c (.int .i64 3))) <|
  .nil
def Q6_2 : Sts := .op (some 2) (.mv (.c (.bool false))) <|
  .nil
def Q6_3 : Sts := .op (some 3) (.mv (.c (.int .i64 0))) <|
  .op (some 4) (.mv (.c (.int .i64 0))) <|
  .nil
def Q6_4 : Sts := .op (some 5) (.alloc 58 [(.int .i64 0), (.int .i64 0), (.int .i64 0)]) <|
  .nil
def Q6_5 : Sts := .op (some 14) (.faddr 0 (.t 1)) <|
  .op (some 15) (.loadS (.t 14)) <|
  .op (some 16) (.len (.t 15)) <|
  .op (some 17) (.mv (.c (.int .i64 0))) <|
  .nil
def Q6_6 : Sts := .op (some 18) (.bin .lss (.t 17) (.t 16)) <|
  .nil
def Q6_7 : Sts := .op (some 19) (.iaddrS 1 (.t 15) (.t 17)) <|
  .op (some 20) (.loadS (.t 19)) <|
  .op (some 7) (.mv (.t 20)) <|
  .nil
def Q6_8 : Sts := .op (some 21) (.mv (.t 7)) <|
  .op (some 22) (.len (.t 21)) <|
  .op (some 23) (.mv (.c (.int .i64 0))) <|
  .nil
def Q6_9 : Sts := .op (some 24) (.bin .lss (.t 23) (.t 22)) <|
  .nil
def Q6_10 : Sts := .op (some 25) (.iaddrS 5 (.t 21) (.t 23)) <|
  .op (some 26) (.loadA 5 (.t 25)) <|
  .op (some 9) (.alloc 55 [(.int .i64 0), (.int .i64 0), (.int .i64 0), (.int .i64 0), (.int .i64 0)]) <|
  .op none (.store 5 (.t 9) (.t 26)) <|
  .nil
def Q6_11 : Sts := .op (some 28) (.faddr 0 (.t 9)) <|
  .op (some 29) (.loadI .i64 (.t 28)) <|
  .op (some 30) (.bin .eql (.t 29) (.c (.int .i64 5))) <|
  .op (some 27) (.mv (.t 30)) <|
  .nil
def Q6_12 : Sts := .op (some 31) (.mv (.t 4)) <|
  .op (some 32) (.bin .add (.t 31) (.c (.int .i64 1))) <|
  .op (some 4) (.mv (.t 32)) <|
  .nil
def Q6_13 : Sts := .op (some 34) (.loadA 5 (.t 9)) <|
  .op (some 35) (.call 62 [(.t 34)]) <|
  .op (some 33) (.mv (.t 35)) <|
  .nil
def Q6_14 : Sts := .op (some 36) (.mv (.t 3)) <|
  .op (some 37) (.bin .add (.t 36) (.c (.int .i64 1))) <|
  .op (some 3) (.mv (.t 37)) <|
  .nil
def Q6_15 : Sts := .op (some 38) (.faddr 4 (.t 9)) <|
  .op (some 39) (.loadI .i64 (.t 38)) <|
  .op (some 40) (.bin .eql (.t 39) (.c (.int .i64 4))) <|
  .nil
def Q6_16 : Sts := .op (some 41) (.mv (.t 4)) <|
  .op (some 42) (.bin .add (.t 41) (.c (.int .i64 2))) <|
  .op (some 4) (.mv (.t 42)) <|
  .nil
def Q6_17 : Sts := .op (some 43) (.faddr 0 (.t 9)) <|
  .op (some 44) (.loadI .i64 (.t 43)) <|
  .op (some 45) (.bin .neq (.t 44) (.c (.int .i64 0))) <|
  .op (some 46) (.mv (.t 45)) <|
  .cnd 46 true (
  .op (some 47) (.faddr 1 (.t 9)) <|
  .op (some 48) (.loadI .i64 (.t 47)) <|
  .op (some 49) (.bin .geq (.t 48) (.c (.int .i64 0))) <|
  .nil) 50 (.t 49) <|
  .op (some 51) (.mv (.t 50)) <|
  .cnd 51 true (
  .op (some 52) (.faddr 1 (.t 9)) <|
  .op (some 53) (.loadI .i64 (.t 52)) <|
  .op (some 54) (.bin .lss (.t 53) (.c (.int .i64 3))) <|
  .nil) 55 (.t 54) <|
  .nil
def Q6_18 : Sts := .op (some 56) (.faddr 1 (.t 9)) <|
  .op (some 57) (.loadI .i64 (.t 56)) <|
  .op (some 58) (.iaddrA 3 1 (.t 5) (.t 57)) <|
  .op (some 59) (.loadI .i64 (.t 58)) <|
  .op (some 60) (.bin .add (.t 59) (.c (.int .i64 1))) <|
  .op (some 61) (.iaddrA 3 1 (.t 5) (.t 57)) <|
  .op none (.store 1 (.t 61) (.t 60)) <|
  .nil
def Q6_19 : Sts := .op (some 62) (.bin .add (.t 23) (.c (.int .i64 1))) <|
  .op (some 23) (.mv (.t 62)) <|
  .nil
def Q6_L20 : RCode := (.seq (.reg Q6_9) (.seq (.cond (.t 24) .skip (.exit 2)) (.seq (.block 3 (.seq (.reg Q6_10) (.block 4 (.seq (.reg Q6_11) (.cond (.t 27) (.reg Q6_12) (.seq (.reg Q6_13) (.cond (.t 33) (.seq (.reg Q6_14) (.seq (.seq (.reg Q6_15) (.cond (.t 40) (.reg Q6_16) .skip)) (.seq (.reg Q6_17) (.cond (.t 55) (.reg Q6_18) .skip)))) .skip))))))) (.reg Q6_19))))
def Q6_20 : Sts := .op (some 63) (.bin .add (.t 17) (.c (.int .i64 1))) <|
  .op (some 17) (.mv (.t 63)) <|
  .nil
def Q6_L21 : RCode := (.seq (.reg Q6_6) (.seq (.cond (.t 18) .skip (.exit 0)) (.seq (.block 1 (.seq (.reg Q6_7) (.seq (.reg Q6_8) (.block 2 (.loop Q6_L20))))) (.reg Q6_20))))
def Q6_21 : Sts := .op (some 64) (.mv (.t 3)) <|
  .op (some 65) (.bin .leq (.t 64) (.c (.int .i64 6))) <|
  .op (some 66) (.mv (.t 65)) <|
  .cnd 66 true (
  .op (some 67) (.mv (.t 4)) <|
  .op (some 68) (.bin .leq (.t 67) (.c (.int .i64 8))) <|
  .nil) 69 (.t 68) <|
  .op (some 70) (.mv (.t 69)) <|
  .cnd 70 true (
  .op (some 71) (.slA 3 1 (.t 5) none none) <|
  .op (some 72) (.call 88 [(.t 71)]) <|
  .op (some 73) (.bin .leq (.t 72) (.c (.int .i64 4))) <|
  .nil) 74 (.t 73) <|
  .op (some 2) (.mv (.t 74)) <|
  .nil
def Q6 : RFun := ⟨75, [0, 1, 2, 3, 4, 5, 7, 9, 15, 16, 17, 21, 22, 23], (.seq (.reg Q6_0) (.seq (.seq (.reg Q6_1) (.cond (.t 13) (.seq (.reg Q6_2) .ret) .skip)) (.seq (.reg Q6_3) (.seq (.reg Q6_4) (.seq (.seq (.reg Q6_5) (.block 0 (.loop Q6_L21))) (.seq (.reg Q6_21) .ret)))))), [.tmp 2]⟩
theorem Q6_ok : compF Try.prog [0, 1, 2, 3, 4, 5, 7, 9, 15, 16, 17, 21, 22, 23] [28, 33, 19, 32, 29, 30, 73] 79 = some Q6 := by kernel_rfl

/- lockless/order.May -/
def Q49_0 : Sts := .op (some 4) (.mv (.c (.bool false))) <|
  .op (some 5) (.mv (.c (.int .i64 0))) <|
  .nil
def Q49_1 : Sts := .op (some 6) (.mv (.t 0)) <|
  .op (some 7) (.bin .lss (.t 6) (.c (.int .i64 0))) <|
  .op (some 8) (.mv (.t 7)) <|
  .cnd 8 false (
  .op (some 9) (.mv (.t 0)) <|
  .op (some 10) (.bin .geq (.t 9) (.c (.int .i64 6))) <|
  .nil) 11 (.t 10) <|
  .op (some 12) (.mv (.t 11)) <|
  .cnd 12 false (
  .op (some 13) (.mv (.t 1)) <|
  .op (some 14) (.call 89 [(.t 13)]) <|
  .op (some 15) (.notb (.t 14)) <|
  .nil) 16 (.t 15) <|
  .nil
def Q49_2 : Sts := .op (some 4) (.mv (.c (.bool false))) <|
  .op (some 5) (.mv (.c (.int .i64 1))) <|
  .nil
def Q49_3 : Sts := .op (some 17) (.mv (.t 0)) <|
  .op (some 18) (.mv (.t 1)) <|
  .op (some 19) (.call 90 [(.t 17), (.t 18)]) <|
  .op (some 4) (.mv (.t 19)) <|
  .op (some 5) (.mv (.c (.int .i64 0))) <|
  .nil
def Q49 : RFun := ⟨20, [0, 1, 4, 5], (.seq (.reg Q49_0) (.seq (.seq (.reg Q49_1) (.cond (.t 16) (.seq (.reg Q49_2) .ret) .skip)) (.seq (.reg Q49_3) .ret))), [.tmp 4, .tmp 5]⟩
theorem Q49_ok : compF Try.prog [0, 1, 4, 5] [28, 33, 19, 32, 29, 30, 73] 80 = some Q49 := by kernel_rfl

/- lockless/litmus.fits -/
def Q5_0 : Sts := .op (some 1) (.box 55 (.t 0)) <|
  .op (some 2) (.mv (.c (.bool false))) <|
  .nil
def Q5_1 : Sts := .op (some 3) (.faddr 1 (.t 1)) <|
  .op (some 4) (.loadI .i64 (.t 3)) <|
  .op (some 5) (.bin .lss (.t 4) (.c (.int .i64 0))) <|
  .op (some 6) (.mv (.t 5)) <|
  .cnd 6 false (
  .op (some 7) (.faddr 1 (.t 1)) <|
  .op (some 8) (.loadI .i64 (.t 7)) <|
  .op (some 9) (.bin .geq (.t 8) (.c (.int .i64 3))) <|
  .nil) 10 (.t 9) <|
  .nil
def Q5_2 : Sts := .op (some 2) (.mv (.c (.bool false))) <|
  .nil
def Q5_3 : Sts := .op (some 11) (.faddr 0 (.t 1)) <|
  .op (some 12) (.loadI .i64 (.t 11)) <|
  .nil
def Q5_4 : Sts := .op (some 14) (.bin .eql (.t 12) (.c (.int .i64 0))) <|
  .op (some 13) (.mv (.t 14)) <|
  .nil
def Q5_5 : Sts := .op (some 15) (.faddr 2 (.t 1)) <|
  .op (some 16) (.loadI .i64 (.t 15)) <|
  .op (some 17) (.bin .eql (.t 16) (.c (.int .i64 0))) <|
  .op (some 18) (.mv (.t 17)) <|
  .cnd 18 true (
  .op (some 19) (.faddr 3 (.t 1)) <|
  .op (some 20) (.loadI .i64 (.t 19)) <|
  .op (some 21) (.bin .eql (.t 20) (.c (.int .i64 0))) <|
  .nil) 22 (.t 21) <|
  .op (some 2) (.mv (.t 22)) <|
  .nil
def Q5_6 : Sts := .op (some 24) (.bin .eql (.t 12) (.c (.int .i64 1))) <|
  .op (some 23) (.mv (.t 24)) <|
  .nil
def Q5_7 : Sts := .op (some 25) (.faddr 2 (.t 1)) <|
  .op (some 26) (.loadI .i64 (.t 25)) <|
  .op (some 27) (.call 91 [(.t 26)]) <|
  .op (some 28) (.mv (.t 27)) <|
  .cnd 28 true (
  .op (some 29) (.faddr 3 (.t 1)) <|
  .op (some 30) (.loadI .i64 (.t 29)) <|
  .op (some 31) (.bin .eql (.t 30) (.c (.int .i64 0))) <|
  .nil) 32 (.t 31) <|
  .op (some 2) (.mv (.t 32)) <|
  .nil
def Q5_8 : Sts := .op (some 34) (.bin .eql (.t 12) (.c (.int .i64 2))) <|
  .op (some 33) (.mv (.t 34)) <|
  .nil
def Q5_9 : Sts := .op (some 35) (.faddr 2 (.t 1)) <|
  .op (some 36) (.loadI .i64 (.t 35)) <|
  .op (some 37) (.bin .geq (.t 36) (.c (.int .i64 (-9)))) <|
  .op (some 38) (.mv (.t 37)) <|
  .cnd 38 true (
  .op (some 39) (.faddr 2 (.t 1)) <|
  .op (some 40) (.loadI .i64 (.t 39)) <|
  .op (some 41) (.bin .leq (.t 40) (.c (.int .i64 9))) <|
  .nil) 42 (.t 41) <|
  .op (some 43) (.mv (.t 42)) <|
  .cnd 43 true (
  .op (some 44) (.faddr 3 (.t 1)) <|
  .op (some 45) (.loadI .i64 (.t 44)) <|
  .op (some 46) (.bin .eql (.t 45) (.c (.int .i64 0))) <|
  .nil) 47 (.t 46) <|
  .op (some 2) (.mv (.t 47)) <|
  .nil
def Q5_10 : Sts := .op (some 49) (.bin .eql (.t 12) (.c (.int .i64 3))) <|
  .op (some 48) (.mv (.t 49)) <|
  .nil
def Q5_11 : Sts := .op (some 50) (.bin .eql (.t 12) (.c (.int .i64 4))) <|
  .op (some 48) (.mv (.t 50)) <|
  .nil
def Q5_12 : Sts := .op (some 51) (.faddr 2 (.t 1)) <|
  .op (some 52) (.loadI .i64 (.t 51)) <|
  .op (some 53) (.call 91 [(.t 52)]) <|
  .op (some 54) (.mv (.t 53)) <|
  .cnd 54 true (
  .op (some 55) (.faddr 3 (.t 1)) <|
  .op (some 56) (.loadI .i64 (.t 55)) <|
  .op (some 57) (.call 91 [(.t 56)]) <|
  .nil) 58 (.t 57) <|
  .op (some 2) (.mv (.t 58)) <|
  .nil
def Q5_13 : Sts := .op (some 60) (.bin .eql (.t 12) (.c (.int .i64 5))) <|
  .op (some 59) (.mv (.t 60)) <|
  .nil
def Q5_14 : Sts := .op (some 61) (.faddr 1 (.t 1)) <|
  .op (some 62) (.loadI .i64 (.t 61)) <|
  .op (some 63) (.bin .eql (.t 62) (.c (.int .i64 0))) <|
  .op (some 64) (.mv (.t 63)) <|
  .cnd 64 true (
  .op (some 65) (.faddr 2 (.t 1)) <|
  .op (some 66) (.loadI .i64 (.t 65)) <|
  .op (some 67) (.bin .eql (.t 66) (.c (.int .i64 0))) <|
  .nil) 68 (.t 67) <|
  .op (some 69) (.mv (.t 68)) <|
  .cnd 69 true (
  .op (some 70) (.faddr 3 (.t 1)) <|
  .op (some 71) (.loadI .i64 (.t 70)) <|
  .op (some 72) (.bin .eql (.t 71) (.c (.int .i64 0))) <|
  .nil) 73 (.t 72) <|
  .op (some 2) (.mv (.t 73)) <|
  .nil
def Q5_15 : Sts := .op (some 2) (.mv (.c (.bool false))) <|
  .nil
def Q5 : RFun := ⟨74, [0, 1, 2, 12], (.seq (.reg Q5_0) (.seq (.seq (.reg Q5_1) (.cond (.t 10) (.seq (.reg Q5_2) .ret) .skip)) (.seq (.seq (.reg Q5_3) (.block 0 (.seq (.reg Q5_4) (.cond (.t 13) (.seq (.reg Q5_5) .ret) (.seq (.reg Q5_6) (.cond (.t 23) (.seq (.reg Q5_7) .ret) (.seq (.reg Q5_8) (.cond (.t 33) (.seq (.reg Q5_9) .ret) (.seq (.seq (.reg Q5_10) (.cond (.t 48) .skip (.reg Q5_11))) (.cond (.t 48) (.seq (.reg Q5_12) .ret) (.seq (.reg Q5_13) (.cond (.t 59) (.seq (.reg Q5_14) .ret) .skip)))))))))))) (.seq (.reg Q5_15) .ret)))), [.tmp 2]⟩
theorem Q5_ok : compF Try.prog [0, 1, 2, 12] [28, 33, 19, 32, 29, 30, 73] 81 = some Q5 := by kernel_rfl

/- lockless/order.Acquires -/
def Q48_0 : Sts := .op (some 2) (.mv (.c (.bool false))) <|
  .op (some 3) (.mv (.c (.int .i64 0))) <|
  .nil
def Q48_1 : Sts := .op (some 4) (.mv (.t 0)) <|
  .op (some 5) (.call 89 [(.t 4)]) <|
  .op (some 6) (.notb (.t 5)) <|
  .nil
def Q48_2 : Sts := .op (some 2) (.mv (.c (.bool false))) <|
  .op (some 3) (.mv (.c (.int .i64 1))) <|
  .nil
def Q48_3 : Sts := .op (some 7) (.mv (.t 0)) <|
  .op (some 8) (.call 92 [(.t 7)]) <|
  .op (some 9) (.bin .and (.t 8) (.c (.int .i64 1))) <|
  .op (some 10) (.bin .neq (.t 9) (.c (.int .i64 0))) <|
  .op (some 2) (.mv (.t 10)) <|
  .op (some 3) (.mv (.c (.int .i64 0))) <|
  .nil
def Q48 : RFun := ⟨11, [0, 2, 3], (.seq (.reg Q48_0) (.seq (.seq (.reg Q48_1) (.cond (.t 6) (.seq (.reg Q48_2) .ret) .skip)) (.seq (.reg Q48_3) .ret))), [.tmp 2, .tmp 3]⟩
theorem Q48_ok : compF Try.prog [0, 2, 3] [28, 33, 19, 32, 29, 30, 73] 82 = some Q48 := by kernel_rfl

/- (*lockless/view.Machine).join -/
def Q80_0 : Sts := .op (some 4) (.box 59 (.t 1)) <|
  .op (some 5) (.box 59 (.t 2)) <|
  .op (some 6) (.alloc 59 [(.int .i64 0), (.int .i64 0), (.int .i64 0)]) <|
  .nil
def Q80_1 : Sts := .op (some 8) (.mv (.c (.int .i64 0))) <|
  .nil
def Q80_2 : Sts := .op (some 9) (.bin .lss (.t 8) (.c (.int .i64 3))) <|
  .nil
def Q80_3 : Sts := .op (some 10) (.mv (.t 8)) <|
  .op (some 7) (.mv (.t 10)) <|
  .nil
def Q80_4 : AT := .q (.op 0 (some 11) (.mv (.t 7)) <|
  .op 1 (some 12) (.iaddrA 3 1 (.t 5) (.t 11)) <|
  .op 2 (some 13) (.loadI .i64 (.t 12)) <|
  .op 3 (some 14) (.bin .geq (.t 13) (.c (.int .i64 0))) <|
  .op 4 (some 15) (.mv (.t 14)) <|
  .g 15 true (
  .op 5 (some 16) (.mv (.t 7)) <|
  .op 6 (some 17) (.iaddrA 3 1 (.t 4) (.t 16)) <|
  .op 7 (some 18) (.loadI .i64 (.t 17)) <|
  .op 8 (some 19) (.bin .lss (.t 18) (.c (.int .i64 0))) <|
  .op 9 (some 20) (.mv (.t 19)) <|
  .g 20 false (
  .op 10 (some 21) (.mv (.t 0)) <|
  .op 11 (some 22) (.mv (.t 7)) <|
  .op 12 (some 23) (.mv (.t 7)) <|
  .op 13 (some 24) (.iaddrA 3 1 (.t 5) (.t 23)) <|
  .op 14 (some 25) (.loadI .i64 (.t 24)) <|
  .op 15 (some 26) (.call 33 [(.t 21), (.t 22), (.t 25)]) <|
  .op 16 (some 27) (.mv (.t 0)) <|
  .op 17 (some 28) (.mv (.t 7)) <|
  .op 18 (some 29) (.mv (.t 7)) <|
  .op 19 (some 30) (.iaddrA 3 1 (.t 4) (.t 29)) <|
  .op 20 (some 31) (.loadI .i64 (.t 30)) <|
  .op 21 (some 32) (.call 33 [(.t 27), (.t 28), (.t 31)]) <|
  .op 22 (some 33) (.bin .gtr (.t 26) (.t 32)) <|
  .nil) 23 34 (.t 33) <|
  .nil) 24 35 (.t 34) <|
  .nil) <|
  .fin
def Q80_5 : Sts := .op (some 36) (.mv (.t 7)) <|
  .op (some 37) (.mv (.t 7)) <|
  .op (some 38) (.iaddrA 3 1 (.t 5) (.t 37)) <|
  .op (some 39) (.loadI .i64 (.t 38)) <|
  .op (some 40) (.iaddrA 3 1 (.t 4) (.t 36)) <|
  .op none (.store 1 (.t 40) (.t 39)) <|
  .nil
def Q80_6 : Sts := .op (some 41) (.bin .add (.t 8) (.c (.int .i64 1))) <|
  .op (some 8) (.mv (.t 41)) <|
  .nil
def Q80_L7 : RCode := (.seq (.reg Q80_2) (.seq (.cond (.t 9) .skip (.exit 0)) (.seq (.block 1 (.seq (.reg Q80_3) (.seq (.any Q80_4) (.cond (.t 35) (.reg Q80_5) .skip)))) (.reg Q80_6))))
def Q80_7 : Sts := .op (some 42) (.loadA 3 (.t 4)) <|
  .op none (.store 3 (.t 6) (.t 42)) <|
  .nil
def Q80 : RFun := ⟨43, [0, 1, 2, 4, 5, 6, 7, 8], (.seq (.reg Q80_0) (.seq (.seq (.reg Q80_1) (.block 0 (.loop Q80_L7))) (.seq (.reg Q80_7) .ret))), [.cellA 6 3]⟩
theorem Q80_ok : compF Try.prog [0, 1, 2, 4, 5, 6, 7, 8] [28, 33, 19, 32, 29, 30, 73] 83 = some Q80 := by kernel_rfl

/- lockless/order.Releases -/
def Q51_0 : Sts := .op (some 2) (.mv (.c (.bool false))) <|
  .op (some 3) (.mv (.c (.int .i64 0))) <|
  .nil
def Q51_1 : Sts := .op (some 4) (.mv (.t 0)) <|
  .op (some 5) (.call 89 [(.t 4)]) <|
  .op (some 6) (.notb (.t 5)) <|
  .nil
def Q51_2 : Sts := .op (some 2) (.mv (.c (.bool false))) <|
  .op (some 3) (.mv (.c (.int .i64 1))) <|
  .nil
def Q51_3 : Sts := .op (some 7) (.mv (.t 0)) <|
  .op (some 8) (.call 92 [(.t 7)]) <|
  .op (some 9) (.bin .and (.t 8) (.c (.int .i64 2))) <|
  .op (some 10) (.bin .neq (.t 9) (.c (.int .i64 0))) <|
  .op (some 2) (.mv (.t 10)) <|
  .op (some 3) (.mv (.c (.int .i64 0))) <|
  .nil
def Q51 : RFun := ⟨11, [0, 2, 3], (.seq (.reg Q51_0) (.seq (.seq (.reg Q51_1) (.cond (.t 6) (.seq (.reg Q51_2) .ret) .skip)) (.seq (.reg Q51_3) .ret))), [.tmp 2, .tmp 3]⟩
theorem Q51_ok : compF Try.prog [0, 2, 3] [28, 33, 19, 32, 29, 30, 73] 84 = some Q51 := by kernel_rfl

/- slices.Insert[[]int,int] -/
def Q62_0 : Sts := .op (some 6) (.mv (.c (.slice none 0 0))) <|
  .nil
def Q62_1 : Sts := .op (some 10) (.mv (.t 0)) <|
  .op (some 11) (.mv (.t 1)) <|
  .op (some 12) (.slS 1 (.t 10) (some (.t 11)) none none) <|
  .nil
def Q62_2 : Sts := .op (some 13) (.mv (.t 2)) <|
  .op (some 14) (.len (.t 13)) <|
  .op (some 7) (.mv (.t 14)) <|
  .nil
def Q62_3 : Sts := .op (some 15) (.mv (.t 7)) <|
  .op (some 16) (.bin .eql (.t 15) (.c (.int .i64 0))) <|
  .nil
def Q62_4 : Sts := .op (some 17) (.mv (.t 0)) <|
  .op (some 6) (.mv (.t 17)) <|
  .nil
def Q62_5 : Sts := .op (some 18) (.mv (.t 0)) <|
  .op (some 19) (.len (.t 18)) <|
  .op (some 8) (.mv (.t 19)) <|
  .nil
def Q62_6 : Sts := .op (some 20) (.mv (.t 1)) <|
  .op (some 21) (.mv (.t 8)) <|
  .op (some 22) (.bin .eql (.t 20) (.t 21)) <|
  .nil
def Q62_7 : Sts := .op (some 23) (.mv (.t 0)) <|
  .op (some 24) (.mv (.t 2)) <|
  .op (some 25) (.append 3 1 8 [(.int .i64 0)] (.t 23) (.t 24)) <|
  .op (some 6) (.mv (.t 25)) <|
  .nil
def Q62_8 : Sts := .op (some 26) (.mv (.t 8)) <|
  .op (some 27) (.mv (.t 7)) <|
  .op (some 28) (.bin .add (.t 26) (.t 27)) <|
  .op (some 29) (.mv (.t 0)) <|
  .op (some 30) (.cap (.t 29)) <|
  .op (some 31) (.bin .gtr (.t 28) (.t 30)) <|
  .nil
def Q62_9 : Sts := .op (some 32) (.mv (.t 0)) <|
  .op (some 33) (.mv (.t 1)) <|
  .op (some 34) (.slS 1 (.t 32) none (some (.t 33)) none) <|
  .op (some 35) (.mv (.t 8)) <|
  .op (some 36) (.mv (.t 7)) <|
  .op (some 37) (.bin .add (.t 35) (.t 36)) <|
  .op (some 38) (.mv (.t 1)) <|
  .op (some 39) (.bin .sub (.t 37) (.t 38)) <|
  .op (some 40) (.appendZ 3 1 8 [(.int .i64 0)] (.t 34) (.t 39)) <|
  .op (some 9) (.mv (.t 40)) <|
  .nil
def Q62_10 : Sts := .op (some 41) (.mv (.t 9)) <|
  .op (some 42) (.mv (.t 1)) <|
  .op (some 43) (.slS 1 (.t 41) (some (.t 42)) none none) <|
  .op (some 44) (.mv (.t 2)) <|
  .op (some 45) (.copyO 1 (.t 43) (.t 44)) <|
  .nil
def Q62_11 : AT := .q (.op 0 (some 46) (.mv (.t 9)) <|
  .op 1 (some 47) (.mv (.t 1)) <|
  .op 2 (some 48) (.mv (.t 7)) <|
  .op 3 (some 49) (.bin .add (.t 47) (.t 48)) <|
  .op 4 (some 50) (.slS 1 (.t 46) (some (.t 49)) none none) <|
  .op 5 (some 51) (.mv (.t 0)) <|
  .op 6 (some 52) (.mv (.t 1)) <|
  .op 7 (some 53) (.slS 1 (.t 51) (some (.t 52)) none none) <|
  .nil) <|
  .s 8 (some 54) (.copyO 1 (.t 50) (.t 53)) true (
  .q (.nil) <|
  .fin) <|
  .no
def Q62_12 : Sts := .op (some 55) (.mv (.t 9)) <|
  .op (some 6) (.mv (.t 55)) <|
  .nil
def Q62_13 : Sts := .op (some 56) (.mv (.t 0)) <|
  .op (some 57) (.mv (.t 8)) <|
  .op (some 58) (.mv (.t 7)) <|
  .op (some 59) (.bin .add (.t 57) (.t 58)) <|
  .op (some 60) (.slS 1 (.t 56) none (some (.t 59)) none) <|
  .op (some 0) (.mv (.t 60)) <|
  .nil
def Q62_14 : Sts := .op (some 61) (.mv (.t 2)) <|
  .op (some 62) (.mv (.t 0)) <|
  .op (some 63) (.mv (.t 1)) <|
  .op (some 64) (.mv (.t 7)) <|
  .op (some 65) (.bin .add (.t 63) (.t 64)) <|
  .op (some 66) (.slS 1 (.t 62) (some (.t 65)) none none) <|
  .op (some 67) (.ext 93 [(.t 61), (.t 66)]) <|
  .op (some 68) (.notb (.t 67)) <|
  .nil
def Q62_15 : AT := .q (.op 0 (some 69) (.mv (.t 0)) <|
  .op 1 (some 70) (.mv (.t 1)) <|
  .op 2 (some 71) (.mv (.t 7)) <|
  .op 3 (some 72) (.bin .add (.t 70) (.t 71)) <|
  .op 4 (some 73) (.slS 1 (.t 69) (some (.t 72)) none none) <|
  .op 5 (some 74) (.mv (.t 0)) <|
  .op 6 (some 75) (.mv (.t 1)) <|
  .op 7 (some 76) (.slS 1 (.t 74) (some (.t 75)) none none) <|
  .nil) <|
  .s 8 (some 77) (.copyO 1 (.t 73) (.t 76)) true (
  .q (.nil) <|
  .fin) <|
  .no
def Q62_16 : Sts := .op (some 78) (.mv (.t 0)) <|
  .op (some 79) (.mv (.t 1)) <|
  .op (some 80) (.slS 1 (.t 78) (some (.t 79)) none none) <|
  .op (some 81) (.mv (.t 2)) <|
  .op (some 82) (.copyO 1 (.t 80) (.t 81)) <|
  .nil
def Q62_17 : Sts := .op (some 83) (.mv (.t 0)) <|
  .op (some 6) (.mv (.t 83)) <|
  .nil
def Q62_18 : Sts := .op (some 84) (.mv (.t 0)) <|
  .op (some 85) (.mv (.t 8)) <|
  .op (some 86) (.slS 1 (.t 84) (some (.t 85)) none none) <|
  .op (some 87) (.mv (.t 2)) <|
  .op (some 88) (.copyO 1 (.t 86) (.t 87)) <|
  .nil
def Q62_19 : Sts := .op (some 89) (.mv (.t 0)) <|
  .op (some 90) (.mv (.t 1)) <|
  .op (some 91) (.slS 1 (.t 89) (some (.t 90)) none none) <|
  .op (some 92) (.mv (.t 7)) <|
  .op (some 93) (.call 94 [(.t 91), (.t 92)]) <|
  .nil
def Q62_20 : Sts := .op (some 94) (.mv (.t 0)) <|
  .op (some 6) (.mv (.t 94)) <|
  .nil
def Q62 : RFun := ⟨95, [0, 1, 2, 6, 7, 8, 9], (.seq (.reg Q62_0) (.seq (.reg Q62_1) (.seq (.reg Q62_2) (.seq (.seq (.reg Q62_3) (.cond (.t 16) (.seq (.reg Q62_4) .ret) .skip)) (.seq (.reg Q62_5) (.seq (.seq (.reg Q62_6) (.cond (.t 22) (.seq (.reg Q62_7) .ret) .skip)) (.seq (.seq (.reg Q62_8) (.cond (.t 31) (.seq (.reg Q62_9) (.seq (.reg Q62_10) (.seq (.any Q62_11) (.seq (.reg Q62_12) .ret)))) .skip)) (.seq (.reg Q62_13) (.seq (.seq (.reg Q62_14) (.cond (.t 68) (.seq (.any Q62_15) (.seq (.reg Q62_16) (.seq (.reg Q62_17) .ret))) .skip)) (.seq (.reg Q62_18) (.seq (.reg Q62_19) (.seq (.reg Q62_20) .ret)))))))))))), [.tmp 6]⟩
theorem Q62_ok : compF Try.prog [0, 1, 2, 6, 7, 8, 9] [28, 33, 19, 32, 29, 30, 73] 85 = some Q62 := by kernel_rfl

/- lockless/locklessref03.isOp -/
def Q25_0 : Sts := .op (some 1) (.box 55 (.t 0)) <|
  .op (some 2) (.mv (.c (.bool false))) <|
  .nil
def Q25_1 : Sts := .op (some 3) (.faddr 0 (.t 1)) <|
  .op (some 4) (.loadI .i64 (.t 3)) <|
  .op (some 5) (.faddr 4 (.t 1)) <|
  .op (some 6) (.loadI .i64 (.t 5)) <|
  .op (some 7) (.call 95 [(.t 4), (.t 6)]) <|
  .op (some 8) (.notb (.t 7)) <|
  .op (some 9) (.mv (.t 8)) <|
  .cnd 9 false (
  .op (some 10) (.faddr 1 (.t 1)) <|
  .op (some 11) (.loadI .i64 (.t 10)) <|
  .op (some 12) (.bin .lss (.t 11) (.c (.int .i64 0))) <|
  .nil) 13 (.t 12) <|
  .op (some 14) (.mv (.t 13)) <|
  .cnd 14 false (
  .op (some 15) (.faddr 1 (.t 1)) <|
  .op (some 16) (.loadI .i64 (.t 15)) <|
  .op (some 17) (.bin .geq (.t 16) (.c (.int .i64 3))) <|
  .nil) 18 (.t 17) <|
  .nil
def Q25_2 : Sts := .op (some 2) (.mv (.c (.bool false))) <|
  .nil
def Q25_3 : Sts := .op (some 19) (.faddr 0 (.t 1)) <|
  .op (some 20) (.loadI .i64 (.t 19)) <|
  .op (some 21) (.bin .eql (.t 20) (.c (.int .i64 5))) <|
  .nil
def Q25_4 : Sts := .op (some 22) (.faddr 1 (.t 1)) <|
  .op (some 23) (.loadI .i64 (.t 22)) <|
  .op (some 24) (.bin .eql (.t 23) (.c (.int .i64 0))) <|
  .op (some 25) (.mv (.t 24)) <|
  .cnd 25 true (
  .op (some 26) (.faddr 2 (.t 1)) <|
  .op (some 27) (.loadI .i64 (.t 26)) <|
  .op (some 28) (.bin .eql (.t 27) (.c (.int .i64 0))) <|
  .nil) 29 (.t 28) <|
  .op (some 30) (.mv (.t 29)) <|
  .cnd 30 true (
  .op (some 31) (.faddr 3 (.t 1)) <|
  .op (some 32) (.loadI .i64 (.t 31)) <|
  .op (some 33) (.bin .eql (.t 32) (.c (.int .i64 0))) <|
  .nil) 34 (.t 33) <|
  .op (some 2) (.mv (.t 34)) <|
  .nil
def Q25_5 : Sts := .op (some 35) (.faddr 0 (.t 1)) <|
  .op (some 36) (.loadI .i64 (.t 35)) <|
  .op (some 37) (.bin .eql (.t 36) (.c (.int .i64 0))) <|
  .nil
def Q25_6 : Sts := .op (some 38) (.faddr 2 (.t 1)) <|
  .op (some 39) (.loadI .i64 (.t 38)) <|
  .op (some 40) (.bin .eql (.t 39) (.c (.int .i64 0))) <|
  .op (some 41) (.mv (.t 40)) <|
  .cnd 41 true (
  .op (some 42) (.faddr 3 (.t 1)) <|
  .op (some 43) (.loadI .i64 (.t 42)) <|
  .op (some 44) (.bin .eql (.t 43) (.c (.int .i64 0))) <|
  .nil) 45 (.t 44) <|
  .op (some 2) (.mv (.t 45)) <|
  .nil
def Q25_7 : Sts := .op (some 46) (.faddr 0 (.t 1)) <|
  .op (some 47) (.loadI .i64 (.t 46)) <|
  .op (some 48) (.bin .eql (.t 47) (.c (.int .i64 1))) <|
  .nil
def Q25_8 : Sts := .op (some 49) (.faddr 2 (.t 1)) <|
  .op (some 50) (.loadI .i64 (.t 49)) <|
  .op (some 51) (.bin .geq (.t 50) (.c (.int .i64 0))) <|
  .op (some 52) (.mv (.t 51)) <|
  .cnd 52 true (
  .op (some 53) (.faddr 2 (.t 1)) <|
  .op (some 54) (.loadI .i64 (.t 53)) <|
  .op (some 55) (.bin .leq (.t 54) (.c (.int .i64 9))) <|
  .nil) 56 (.t 55) <|
  .op (some 57) (.mv (.t 56)) <|
  .cnd 57 true (
  .op (some 58) (.faddr 3 (.t 1)) <|
  .op (some 59) (.loadI .i64 (.t 58)) <|
  .op (some 60) (.bin .eql (.t 59) (.c (.int .i64 0))) <|
  .nil) 61 (.t 60) <|
  .op (some 2) (.mv (.t 61)) <|
  .nil
def Q25_9 : Sts := .op (some 62) (.faddr 0 (.t 1)) <|
  .op (some 63) (.loadI .i64 (.t 62)) <|
  .op (some 64) (.bin .eql (.t 63) (.c (.int .i64 2))) <|
  .nil
def Q25_10 : Sts := .op (some 65) (.faddr 2 (.t 1)) <|
  .op (some 66) (.loadI .i64 (.t 65)) <|
  .op (some 67) (.bin .geq (.t 66) (.c (.int .i64 (-9)))) <|
  .op (some 68) (.mv (.t 67)) <|
  .cnd 68 true (
  .op (some 69) (.faddr 2 (.t 1)) <|
  .op (some 70) (.loadI .i64 (.t 69)) <|
  .op (some 71) (.bin .leq (.t 70) (.c (.int .i64 9))) <|
  .nil) 72 (.t 71) <|
  .op (some 73) (.mv (.t 72)) <|
  .cnd 73 true (
  .op (some 74) (.faddr 3 (.t 1)) <|
  .op (some 75) (.loadI .i64 (.t 74)) <|
  .op (some 76) (.bin .eql (.t 75) (.c (.int .i64 0))) <|
  .nil) 77 (.t 76) <|
  .op (some 2) (.mv (.t 77)) <|
  .nil
def Q25_11 : Sts := .op (some 78) (.faddr 2 (.t 1)) <|
  .op (some 79) (.loadI .i64 (.t 78)) <|
  .op (some 80) (.bin .geq (.t 79) (.c (.int .i64 0))) <|
  .op (some 81) (.mv (.t 80)) <|
  .cnd 81 true (
  .op (some 82) (.faddr 2 (.t 1)) <|
  .op (some 83) (.loadI .i64 (.t 82)) <|
  .op (some 84) (.bin .leq (.t 83) (.c (.int .i64 9))) <|
  .nil) 85 (.t 84) <|
  .op (some 86) (.mv (.t 85)) <|
  .cnd 86 true (
  .op (some 87) (.faddr 3 (.t 1)) <|
  .op (some 88) (.loadI .i64 (.t 87)) <|
  .op (some 89) (.bin .geq (.t 88) (.c (.int .i64 0))) <|
  .nil) 90 (.t 89) <|
  .op (some 91) (.mv (.t 90)) <|
  .cnd 91 true (
  .op (some 92) (.faddr 3 (.t 1)) <|
  .op (some 93) (.loadI .i64 (.t 92)) <|
  .op (some 94) (.bin .leq (.t 93) (.c (.int .i64 9))) <|
  .nil) 95 (.t 94) <|
  .op (some 2) (.mv (.t 95)) <|
  .nil
def Q25 : RFun := ⟨96, [0, 1, 2], (.seq (.reg Q25_0) (.seq (.seq (.reg Q25_1) (.cond (.t 18) (.seq (.reg Q25_2) .ret) .skip)) (.seq (.seq (.reg Q25_3) (.cond (.t 21) (.seq (.reg Q25_4) .ret) .skip)) (.seq (.seq (.reg Q25_5) (.cond (.t 37) (.seq (.reg Q25_6) .ret) .skip)) (.seq (.seq (.reg Q25_7) (.cond (.t 48) (.seq (.reg Q25_8) .ret) .skip)) (.seq (.seq (.reg Q25_9) (.cond (.t 64) (.seq (.reg Q25_10) .ret) .skip)) (.seq (.reg Q25_11) .ret))))))), [.tmp 2]⟩
theorem Q25_ok : compF Try.prog [0, 1, 2] [28, 33, 19, 32, 29, 30, 73] 86 = some Q25 := by kernel_rfl

/- lockless/locklessref03.isAccess -/
def Q24_0 : Sts := .op (some 1) (.box 55 (.t 0)) <|
  .op (some 2) (.mv (.c (.bool false))) <|
  .nil
def Q24_1 : Sts := .op (some 3) (.faddr 0 (.t 1)) <|
  .op (some 4) (.loadI .i64 (.t 3)) <|
  .op (some 5) (.bin .geq (.t 4) (.c (.int .i64 0))) <|
  .op (some 6) (.mv (.t 5)) <|
  .cnd 6 true (
  .op (some 7) (.faddr 0 (.t 1)) <|
  .op (some 8) (.loadI .i64 (.t 7)) <|
  .op (some 9) (.bin .lss (.t 8) (.c (.int .i64 5))) <|
  .nil) 10 (.t 9) <|
  .op (some 2) (.mv (.t 10)) <|
  .nil
def Q24 : RFun := ⟨11, [0, 1, 2], (.seq (.reg Q24_0) (.seq (.reg Q24_1) .ret)), [.tmp 2]⟩
theorem Q24_ok : compF Try.prog [0, 1, 2] [28, 33, 19, 32, 29, 30, 73] 87 = some Q24 := by kernel_rfl

/- slices.Max[[]int,int] -/
def Q63_0 : Sts := .op (some 2) (.mv (.c (.int .i64 0))) <|
  .nil
def Q63_1 : Sts := .op (some 5) (.mv (.t 0)) <|
  .op (some 6) (.len (.t 5)) <|
  .op (some 7) (.bin .lss (.t 6) (.c (.int .i64 1))) <|
  .nil
def Q63_2 : Sts := .op (some 8) (.bad) <|
  .op none (.bad) <|
  .nil
def Q63_3 : Sts := .op (some 9) (.mv (.t 0)) <|
  .op (some 10) (.iaddrS 1 (.t 9) (.c (.int .i64 0))) <|
  .op (some 11) (.loadI .i64 (.t 10)) <|
  .op (some 3) (.mv (.t 11)) <|
  .nil
def Q63_4 : Sts := .op (some 4) (.mv (.c (.int .i64 1))) <|
  .nil
def Q63_5 : Sts := .op (some 12) (.mv (.t 4)) <|
  .op (some 13) (.mv (.t 0)) <|
  .op (some 14) (.len (.t 13)) <|
  .op (some 15) (.bin .lss (.t 12) (.t 14)) <|
  .nil
def Q63_6 : Sts := .op (some 18) (.mv (.t 3)) <|
  .op (some 19) (.mv (.t 0)) <|
  .op (some 20) (.mv (.t 4)) <|
  .op (some 21) (.iaddrS 1 (.t 19) (.t 20)) <|
  .op (some 22) (.loadI .i64 (.t 21)) <|
  .op (some 23) (.maxi (.t 18) (.t 22)) <|
  .op (some 3) (.mv (.t 23)) <|
  .nil
def Q63_7 : Sts := .op (some 16) (.mv (.t 4)) <|
  .op (some 17) (.bin .add (.t 16) (.c (.int .i64 1))) <|
  .op (some 4) (.mv (.t 17)) <|
  .nil
def Q63_L8 : RCode := (.seq (.seq (.reg Q63_5) (.cond (.t 15) .skip (.exit 0))) (.seq (.block 1 (.reg Q63_6)) (.reg Q63_7)))
def Q63_8 : Sts := .op (some 24) (.mv (.t 3)) <|
  .op (some 2) (.mv (.t 24)) <|
  .nil
def Q63 : RFun := ⟨25, [0, 2, 3, 4], (.seq (.reg Q63_0) (.seq (.seq (.reg Q63_1) (.cond (.t 7) (.reg Q63_2) .skip)) (.seq (.reg Q63_3) (.seq (.seq (.reg Q63_4) (.block 0 (.loop Q63_L8))) (.seq (.reg Q63_8) .ret))))), [.tmp 2]⟩
theorem Q63_ok : compF Try.prog [0, 2, 3, 4] [28, 33, 19, 32, 29, 30, 73] 88 = some Q63 := by kernel_rfl

/- lockless/order.isOrder -/
def Q53_0 : Sts := .op (some 2) (.mv (.c (.bool false))) <|
  .nil
def Q53_1 : Sts := .op (some 3) (.mv (.t 0)) <|
  .op (some 4) (.bin .geq (.t 3) (.c (.int .i64 0))) <|
  .op (some 5) (.mv (.t 4)) <|
  .cnd 5 true (
  .op (some 6) (.mv (.t 0)) <|
  .op (some 7) (.bin .lss (.t 6) (.c (.int .i64 5))) <|
  .nil) 8 (.t 7) <|
  .op (some 2) (.mv (.t 8)) <|
  .nil
def Q53 : RFun := ⟨9, [0, 2], (.seq (.reg Q53_0) (.seq (.reg Q53_1) .ret)), [.tmp 2]⟩
theorem Q53_ok : compF Try.prog [0, 2] [28, 33, 19, 32, 29, 30, 73] 89 = some Q53 := by kernel_rfl

/- lockless/order.may -/
def Q54_0 : Sts := .op (some 4) (.mv (.c (.bool false))) <|
  .nil
def Q54_1 : Sts := .op (some 5) (.mv (.t 0)) <|
  .nil
def Q54_2 : Sts := .op (some 7) (.bin .eql (.t 5) (.c (.int .i64 0))) <|
  .op (some 6) (.mv (.t 7)) <|
  .nil
def Q54_3 : Sts := .op (some 8) (.mv (.t 1)) <|
  .op (some 9) (.bin .neq (.t 8) (.c (.int .i64 2))) <|
  .op (some 10) (.mv (.t 9)) <|
  .cnd 10 true (
  .op (some 11) (.mv (.t 1)) <|
  .op (some 12) (.bin .neq (.t 11) (.c (.int .i64 3))) <|
  .nil) 13 (.t 12) <|
  .op (some 4) (.mv (.t 13)) <|
  .nil
def Q54_4 : Sts := .op (some 15) (.bin .eql (.t 5) (.c (.int .i64 1))) <|
  .op (some 14) (.mv (.t 15)) <|
  .nil
def Q54_5 : Sts := .op (some 16) (.mv (.t 1)) <|
  .op (some 17) (.bin .neq (.t 16) (.c (.int .i64 1))) <|
  .op (some 18) (.mv (.t 17)) <|
  .cnd 18 true (
  .op (some 19) (.mv (.t 1)) <|
  .op (some 20) (.bin .neq (.t 19) (.c (.int .i64 3))) <|
  .nil) 21 (.t 20) <|
  .op (some 4) (.mv (.t 21)) <|
  .nil
def Q54_6 : Sts := .op (some 23) (.bin .eql (.t 5) (.c (.int .i64 5))) <|
  .op (some 22) (.mv (.t 23)) <|
  .nil
def Q54_7 : Sts := .op (some 24) (.mv (.t 1)) <|
  .op (some 25) (.bin .neq (.t 24) (.c (.int .i64 0))) <|
  .op (some 4) (.mv (.t 25)) <|
  .nil
def Q54_8 : Sts := .op (some 4) (.mv (.c (.bool true))) <|
  .nil
def Q54 : RFun := ⟨26, [0, 1, 4, 5], (.seq (.reg Q54_0) (.seq (.seq (.reg Q54_1) (.block 0 (.seq (.reg Q54_2) (.cond (.t 6) (.seq (.reg Q54_3) .ret) (.seq (.reg Q54_4) (.cond (.t 14) (.seq (.reg Q54_5) .ret) (.seq (.reg Q54_6) (.cond (.t 22) (.seq (.reg Q54_7) .ret) .skip)))))))) (.seq (.reg Q54_8) .ret))), [.tmp 4]⟩
theorem Q54_ok : compF Try.prog [0, 1, 4, 5] [28, 33, 19, 32, 29, 30, 73] 90 = some Q54 := by kernel_rfl

/- lockless/litmus.digit -/
def Q4_0 : Sts := .op (some 2) (.mv (.c (.bool false))) <|
  .nil
def Q4_1 : Sts := .op (some 3) (.mv (.t 0)) <|
  .op (some 4) (.bin .geq (.t 3) (.c (.int .i64 0))) <|
  .op (some 5) (.mv (.t 4)) <|
  .cnd 5 true (
  .op (some 6) (.mv (.t 0)) <|
  .op (some 7) (.bin .leq (.t 6) (.c (.int .i64 9))) <|
  .nil) 8 (.t 7) <|
  .op (some 2) (.mv (.t 8)) <|
  .nil
def Q4 : RFun := ⟨9, [0, 2], (.seq (.reg Q4_0) (.seq (.reg Q4_1) .ret)), [.tmp 2]⟩
theorem Q4_ok : compF Try.prog [0, 2] [28, 33, 19, 32, 29, 30, 73] 91 = some Q4 := by kernel_rfl

/- lockless/order.bits -/
def Q52_0 : Sts := .op (some 2) (.mv (.c (.int .i64 0))) <|
  .nil
def Q52_1 : Sts := .op (some 3) (.mv (.t 0)) <|
  .op (some 4) (.bin .eql (.t 3) (.c (.int .i64 4))) <|
  .nil
def Q52_2 : Sts := .op (some 2) (.mv (.c (.int .i64 7))) <|
  .nil
def Q52_3 : Sts := .op (some 5) (.mv (.t 0)) <|
  .op (some 2) (.mv (.t 5)) <|
  .nil
def Q52 : RFun := ⟨6, [0, 2], (.seq (.reg Q52_0) (.seq (.seq (.reg Q52_1) (.cond (.t 4) (.seq (.reg Q52_2) .ret) .skip)) (.seq (.reg Q52_3) .ret))), [.tmp 2]⟩
theorem Q52_ok : compF Try.prog [0, 2] [28, 33, 19, 32, 29, 30, 73] 92 = some Q52 := by kernel_rfl

/- slices.rotateRight[int] -/
def Q66_0 : Sts := .op (some 4) (.mv (.t 0)) <|
  .op (some 5) (.mv (.t 0)) <|
  .op (some 6) (.len (.t 5)) <|
  .op (some 7) (.mv (.t 1)) <|
  .op (some 8) (.bin .sub (.t 6) (.t 7)) <|
  .op (some 9) (.call 96 [(.t 4), (.t 8)]) <|
  .nil
def Q66 : RFun := ⟨10, [0, 1], (.reg Q66_0), []⟩
theorem Q66_ok : compF Try.prog [0, 1] [28, 33, 19, 32, 29, 30, 73] 94 = some Q66 := by kernel_rfl

/- lockless/locklessref03.may -/
def Q26_0 : Sts := .op (some 4) (.mv (.c (.bool false))) <|
  .nil
def Q26_1 : Sts := .op (some 5) (.mv (.t 1)) <|
  .op (some 6) (.bin .lss (.t 5) (.c (.int .i64 0))) <|
  .op (some 7) (.mv (.t 6)) <|
  .cnd 7 false (
  .op (some 8) (.mv (.t 1)) <|
  .op (some 9) (.bin .gtr (.t 8) (.c (.int .i64 4))) <|
  .nil) 10 (.t 9) <|
  .nil
def Q26_2 : Sts := .op (some 4) (.mv (.c (.bool false))) <|
  .nil
def Q26_3 : Sts := .op (some 11) (.mv (.t 0)) <|
  .op (some 12) (.bin .eql (.t 11) (.c (.int .i64 0))) <|
  .nil
def Q26_4 : Sts := .op (some 13) (.mv (.t 1)) <|
  .op (some 14) (.bin .eql (.t 13) (.c (.int .i64 0))) <|
  .op (some 15) (.mv (.t 14)) <|
  .cnd 15 false (
  .op (some 16) (.mv (.t 1)) <|
  .op (some 17) (.bin .eql (.t 16) (.c (.int .i64 1))) <|
  .nil) 18 (.t 17) <|
  .op (some 19) (.mv (.t 18)) <|
  .cnd 19 false (
  .op (some 20) (.mv (.t 1)) <|
  .op (some 21) (.bin .eql (.t 20) (.c (.int .i64 4))) <|
  .nil) 22 (.t 21) <|
  .op (some 4) (.mv (.t 22)) <|
  .nil
def Q26_5 : Sts := .op (some 23) (.mv (.t 0)) <|
  .op (some 24) (.bin .eql (.t 23) (.c (.int .i64 1))) <|
  .nil
def Q26_6 : Sts := .op (some 25) (.mv (.t 1)) <|
  .op (some 26) (.bin .eql (.t 25) (.c (.int .i64 0))) <|
  .op (some 27) (.mv (.t 26)) <|
  .cnd 27 false (
  .op (some 28) (.mv (.t 1)) <|
  .op (some 29) (.bin .eql (.t 28) (.c (.int .i64 2))) <|
  .nil) 30 (.t 29) <|
  .op (some 31) (.mv (.t 30)) <|
  .cnd 31 false (
  .op (some 32) (.mv (.t 1)) <|
  .op (some 33) (.bin .eql (.t 32) (.c (.int .i64 4))) <|
  .nil) 34 (.t 33) <|
  .op (some 4) (.mv (.t 34)) <|
  .nil
def Q26_7 : Sts := .op (some 35) (.mv (.t 0)) <|
  .op (some 36) (.bin .eql (.t 35) (.c (.int .i64 5))) <|
  .nil
def Q26_8 : Sts := .op (some 37) (.mv (.t 1)) <|
  .op (some 38) (.bin .neq (.t 37) (.c (.int .i64 0))) <|
  .op (some 4) (.mv (.t 38)) <|
  .nil
def Q26_9 : Sts := .op (some 39) (.mv (.t 0)) <|
  .op (some 40) (.bin .geq (.t 39) (.c (.int .i64 2))) <|
  .op (some 41) (.mv (.t 40)) <|
  .cnd 41 true (
  .op (some 42) (.mv (.t 0)) <|
  .op (some 43) (.bin .leq (.t 42) (.c (.int .i64 4))) <|
  .nil) 44 (.t 43) <|
  .op (some 4) (.mv (.t 44)) <|
  .nil
def Q26 : RFun := ⟨45, [0, 1, 4], (.seq (.reg Q26_0) (.seq (.seq (.reg Q26_1) (.cond (.t 10) (.seq (.reg Q26_2) .ret) .skip)) (.seq (.seq (.reg Q26_3) (.cond (.t 12) (.seq (.reg Q26_4) .ret) .skip)) (.seq (.seq (.reg Q26_5) (.cond (.t 24) (.seq (.reg Q26_6) .ret) .skip)) (.seq (.seq (.reg Q26_7) (.cond (.t 36) (.seq (.reg Q26_8) .ret) .skip)) (.seq (.reg Q26_9) .ret)))))), [.tmp 4]⟩
theorem Q26_ok : compF Try.prog [0, 1, 4] [28, 33, 19, 32, 29, 30, 73] 95 = some Q26 := by kernel_rfl

/- slices.rotateLeft[int] -/
def Q65_0 : Sts := .op (some 4) (.mv (.t 0)) <|
  .op (some 5) (.mv (.t 1)) <|
  .op (some 6) (.slS 1 (.t 4) none (some (.t 5)) none) <|
  .op (some 7) (.call 97 [(.t 6)]) <|
  .nil
def Q65_1 : Sts := .op (some 8) (.mv (.t 0)) <|
  .op (some 9) (.mv (.t 1)) <|
  .op (some 10) (.slS 1 (.t 8) (some (.t 9)) none none) <|
  .op (some 11) (.call 97 [(.t 10)]) <|
  .nil
def Q65_2 : Sts := .op (some 12) (.mv (.t 0)) <|
  .op (some 13) (.call 97 [(.t 12)]) <|
  .nil
def Q65 : RFun := ⟨14, [0, 1], (.seq (.reg Q65_0) (.seq (.reg Q65_1) (.reg Q65_2))), []⟩
theorem Q65_ok : compF Try.prog [0, 1] [28, 33, 19, 32, 29, 30, 73] 96 = some Q65 := by kernel_rfl

/- slices.Reverse[[]int,int] -/
def Q64_0 : Sts := .op (some 4) (.mv (.t 0)) <|
  .op (some 5) (.len (.t 4)) <|
  .op (some 6) (.bin .sub (.t 5) (.c (.int .i64 1))) <|
  .op (some 2) (.mv (.c (.int .i64 0))) <|
  .op (some 3) (.mv (.t 6)) <|
  .nil
def Q64_1 : Sts := .op (some 7) (.mv (.t 2)) <|
  .op (some 8) (.mv (.t 3)) <|
  .op (some 9) (.bin .lss (.t 7) (.t 8)) <|
  .nil
def Q64_2 : AT := .q (.op 0 (some 14) (.mv (.t 0)) <|
  .op 1 (some 15) (.mv (.t 2)) <|
  .op 2 (some 16) (.mv (.t 0)) <|
  .op 3 (some 17) (.mv (.t 3)) <|
  .op 4 (some 18) (.mv (.t 0)) <|
  .op 5 (some 19) (.mv (.t 3)) <|
  .op 6 (some 20) (.iaddrS 1 (.t 18) (.t 19)) <|
  .op 7 (some 21) (.loadI .i64 (.t 20)) <|
  .op 8 (some 22) (.mv (.t 0)) <|
  .op 9 (some 23) (.mv (.t 2)) <|
  .op 10 (some 24) (.iaddrS 1 (.t 22) (.t 23)) <|
  .op 11 (some 25) (.loadI .i64 (.t 24)) <|
  .op 12 (some 26) (.iaddrS 1 (.t 14) (.t 15)) <|
  .nil) <|
  .s 13 none (.store 1 (.t 26) (.t 21)) false (
  .q (.op 14 (some 27) (.iaddrS 1 (.t 16) (.t 17)) <|
  .nil) <|
  .s 15 none (.store 1 (.t 27) (.t 25)) true (
  .q (.nil) <|
  .fin) <|
  .no) <|
  .no
def Q64_3 : Sts := .op (some 10) (.mv (.t 2)) <|
  .op (some 11) (.bin .add (.t 10) (.c (.int .i64 1))) <|
  .op (some 12) (.mv (.t 3)) <|
  .op (some 13) (.bin .sub (.t 12) (.c (.int .i64 1))) <|
  .op (some 2) (.mv (.t 11)) <|
  .op (some 3) (.mv (.t 13)) <|
  .nil
def Q64_L4 : RCode := (.seq (.seq (.reg Q64_1) (.cond (.t 9) .skip (.exit 0))) (.seq (.block 1 (.any Q64_2)) (.reg Q64_3)))
def Q64 : RFun := ⟨28, [0, 2, 3], (.seq (.reg Q64_0) (.block 0 (.loop Q64_L4))), []⟩
theorem Q64_ok : compF Try.prog [0, 2, 3] [28, 33, 19, 32, 29, 30, 73] 97 = some Q64 := by kernel_rfl

end Go.EV
