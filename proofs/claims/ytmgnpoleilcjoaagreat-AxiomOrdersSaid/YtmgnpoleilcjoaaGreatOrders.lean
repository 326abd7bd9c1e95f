/- The program's functions, resolved. Numbers of a row, one by one; gathered. The calculus EV, part 23: slices.Sort of numbers by the kit, as a contract. Rows with the same numbers. The reference's relations: rows of bits made by loops, and what they say. The reference's relations: what is before what. The words of any execution that is shaped, circles or not; which condition it breaks first. The first condition, reckoned. The first condition: the walk. The program's functions, resolved. The plain law of executions: an execution of a program seen in another one. The plain law: locations renamed. A consistent execution that has an outcome. What axiom.Fails, axiom.Outcome and axiom.Allowed hand back. The plain law of executions: each is told once. How many executions there are at most. What is before what in an execution: the plain law, and axiom.Before. Orders that are at least as strong. Programs with orders at least as strong: the walk of litmus.AtLeast. A program with some orders made stronger: the walk of raised. Executions in which all that is done is done in one order: a run of the events. The execution of a run of all events. The execution of a run of all events is one; its outcome. The outcome of a run. An execution that goes with one order of all events is that of a run in this order. With orders that are at least as strong there are no more outcomes (plain law). Runs of the events of a program, event by event. The plain law: the threads in the opposite order. The interleavings of a program are runs of its events. The outcome of each interleaving is one of the executions'. What litmus.Interleavings reckons has an outcome, and not too many. With orders that are at least as strong there are no more outcomes: the walk. What is before what has no circle, leads on, and has each thread's order in it: the walk. What is before what: the statement. -/
import Derived.Test.YtmgnpoleilcjoaaGreatVPac
import Derived.Test.YtmgnpoleilcjoaaGreatProg
import Derived.Test.YtmgnpoleilcjoaaGreatVPab
import Derived.Test.YtmgnpoleilcjoaaGreatVPaf
import Derived.Shelf.SortG.Plain
import Derived.Shelf.SortG.SortNone
import Derived.Shelf.SlGeneric
import Derived.Ground.SlgnProg
import Derived.Test.YtmgnpoleilcjoaaGreatVPae
import Derived.Test.YtmgnpoleilcjoaaGreatVPad
set_option maxRecDepth 8000
set_option linter.unusedSimpArgs false
set_option linter.unusedVariables false
set_option linter.unusedSectionVars false
namespace Go.EV
open Go.Proofs

/- lockless/locklesslaw04.AxiomOrders -/
def Q1000_0 : Sts := .op (some 1) (.box 66 (.t 0)) <|
 .op (some 2) (.mv (.c (.bool false))) <|
 .nil
def Q1000_1 : AT := .q (.op 0 (some 31) (.faddr 0 (.t 1)) <|
 .op 1 (some 32) (.loadA 1 (.t 31)) <|
 .op 2 (some 33) (.faddr 1 (.t 1)) <|
 .op 3 (some 34) (.loadI .i64 (.t 33)) <|
 .op 4 (some 35) (.faddr 2 (.t 1)) <|
 .op 5 (some 36) (.loadI .i64 (.t 35)) <|
 .op 6 (some 37) (.faddr 3 (.t 1)) <|
 .op 7 (some 38) (.loadI .i64 (.t 37)) <|
 .op 8 (some 39) (.faddr 4 (.t 1)) <|
 .op 9 (some 40) (.loadI .i64 (.t 39)) <|
 .nil) <|
 .s 10 (some 3) (.alloc 24 [(.slice none 0 0)]) false (
 .q (.nil) <|
 .s 11 none (.store 1 (.t 3) (.t 32)) false (
 .q (.op 12 (some 4) (.mv (.t 34)) <|
 .op 13 (some 5) (.mv (.t 36)) <|
 .op 14 (some 6) (.mv (.t 38)) <|
 .op 15 (some 7) (.mv (.t 40)) <|
 .nil) <|
 .fin) <|
 .no) <|
 .no
def Q1000_2 : Sts := .op (some 41) (.call 10 []) <|
 .op (some 42) (.notb (.t 41)) <|
 .nil
def Q1000_3 : Sts := .op (some 2) (.mv (.c (.bool false))) <|
 .nil
def Q1000_4 : Sts := .op (some 44) (.loadA 1 (.t 3)) <|
 .op (some 45) (.call 11 [(.t 44)]) <|
 .op (some 43) (.mv (.t 45)) <|
 .op (some 46) (.extract 0 (.t 43)) <|
 .op (some 47) (.extract 1 (.t 43)) <|
 .op (some 8) (.mv (.t 46)) <|
 .op (some 9) (.mv (.t 47)) <|
 .nil
def Q1000_5 : Sts := .op (some 48) (.mv (.t 9)) <|
 .op (some 49) (.bin .neq (.t 48) (.c (.int .i64 0))) <|
 .nil
def Q1000_6 : Sts := .op (some 50) (.mv (.t 8)) <|
 .op (some 51) (.len (.t 50)) <|
 .op (some 52) (.bin .eql (.t 51) (.c (.int .i64 0))) <|
 .op (some 2) (.mv (.t 52)) <|
 .nil
def Q1000_7 : Sts := .op (some 53) (.mv (.t 8)) <|
 .op (some 54) (.len (.t 53)) <|
 .op (some 55) (.bin .eql (.t 54) (.c (.int .i64 0))) <|
 .nil
def Q1000_8 : Sts := .op (some 2) (.mv (.c (.bool false))) <|
 .nil
def Q1000_9 : AT := .q (.op 0 (some 57) (.loadA 1 (.t 3)) <|
 .op 1 (some 58) (.mv (.t 8)) <|
 .op 2 (some 59) (.mv (.t 4)) <|
 .op 3 (some 60) (.conv .u64 (.t 59)) <|
 .op 4 (some 61) (.mv (.t 8)) <|
 .op 5 (some 62) (.len (.t 61)) <|
 .op 6 (some 63) (.conv .u64 (.t 62)) <|
 .op 7 (some 64) (.bin .rem (.t 60) (.t 63)) <|
 .op 8 (some 65) (.conv .i64 (.t 64)) <|
 .op 9 (some 66) (.iaddrS 1 (.t 58) (.t 65)) <|
 .op 10 (some 67) (.loadS (.t 66)) <|
 .nil) <|
 .s 11 (some 68) (.call 17 [(.t 57), (.t 67)]) true (
 .q (.op 12 (some 56) (.mv (.t 68)) <|
 .op 13 (some 69) (.extract 0 (.t 56)) <|
 .op 14 (some 70) (.extract 1 (.t 56)) <|
 .nil) <|
 .s 15 (some 10) (.alloc 45 [(.slice none 0 0), (.slice none 0 0), (.slice none 0 0), (.slice none 0 0)]) false (
 .q (.nil) <|
 .s 16 none (.store 4 (.t 10) (.t 69)) false (
 .q (.op 17 (some 11) (.mv (.t 70)) <|
 .nil) <|
 .fin) <|
 .no) <|
 .no) <|
 .s 15 (some 10) (.alloc 45 [(.slice none 0 0), (.slice none 0 0), (.slice none 0 0), (.slice none 0 0)]) false (
 .q (.nil) <|
 .s 11 (some 68) (.call 17 [(.t 57), (.t 67)]) false (
 .q (.op 12 (some 56) (.mv (.t 68)) <|
 .op 13 (some 69) (.extract 0 (.t 56)) <|
 .op 14 (some 70) (.extract 1 (.t 56)) <|
 .nil) <|
 .s 16 none (.store 4 (.t 10) (.t 69)) false (
 .q (.op 17 (some 11) (.mv (.t 70)) <|
 .nil) <|
 .fin) <|
 .no) <|
 .no) <|
 .no
def Q1000_10 : Sts := .op (some 72) (.loadA 1 (.t 3)) <|
 .op (some 73) (.call 30 [(.t 72)]) <|
 .op (some 71) (.mv (.t 73)) <|
 .op (some 74) (.extract 0 (.t 71)) <|
 .op (some 75) (.extract 1 (.t 71)) <|
 .op (some 12) (.alloc 24 [(.slice none 0 0)]) <|
 .op none (.store 1 (.t 12) (.t 74)) <|
 .op (some 13) (.mv (.t 75)) <|
 .nil
def Q1000_11 : Sts := .op (some 14) (.mv (.c (.int .i64 0))) <|
 .nil
def Q1000_12 : Sts := .op (some 15) (.mv (.c (.slice none 0 0))) <|
 .nil
def Q1000_13 : Sts := .op (some 16) (.mv (.c (.int .i64 0))) <|
 .nil
def Q1000_14 : Sts := .op (some 76) (.mv (.t 16)) <|
 .op (some 77) (.faddr 0 (.t 12)) <|
 .op (some 78) (.loadS (.t 77)) <|
 .op (some 79) (.len (.t 78)) <|
 .op (some 80) (.bin .lss (.t 76) (.t 79)) <|
 .nil
def Q1000_15 : Sts := .op (some 17) (.mv (.c (.int .i64 0))) <|
 .nil
def Q1000_16 : Sts := .op (some 83) (.mv (.t 17)) <|
 .op (some 84) (.faddr 0 (.t 12)) <|
 .op (some 85) (.loadS (.t 84)) <|
 .op (some 86) (.mv (.t 16)) <|
 .op (some 87) (.iaddrS 1 (.t 85) (.t 86)) <|
 .op (some 88) (.loadS (.t 87)) <|
 .op (some 89) (.len (.t 88)) <|
 .op (some 90) (.bin .lss (.t 83) (.t 89)) <|
 .nil
def Q1000_17 : Sts := .op (some 93) (.mv (.t 15)) <|
 .op (some 94) (.mv (.t 16)) <|
 .op (some 95) (.buildSl 3 1 [(.int .i64 0)] [(0, 1, (.t 94))]) <|
 .op (some 96) (.append 3 1 8 [(.int .i64 0)] (.t 93) (.t 95)) <|
 .op (some 15) (.mv (.t 96)) <|
 .nil
def Q1000_18 : Sts := .op (some 97) (.mv (.t 14)) <|
 .op (some 98) (.bin .add (.t 97) (.c (.int .i64 1))) <|
 .op (some 14) (.mv (.t 98)) <|
 .nil
def Q1000_19 : Sts := .op (some 91) (.mv (.t 17)) <|
 .op (some 92) (.bin .add (.t 91) (.c (.int .i64 1))) <|
 .op (some 17) (.mv (.t 92)) <|
 .nil
def Q1000_L20 : RCode := (.seq (.seq (.reg Q1000_16) (.cond (.t 90) .skip (.exit 2))) (.seq (.block 3 (.seq (.reg Q1000_17) (.reg Q1000_18))) (.reg Q1000_19)))
def Q1000_20 : Sts := .op (some 81) (.mv (.t 16)) <|
 .op (some 82) (.bin .add (.t 81) (.c (.int .i64 1))) <|
 .op (some 16) (.mv (.t 82)) <|
 .nil
def Q1000_L21 : RCode := (.seq (.seq (.reg Q1000_14) (.cond (.t 80) .skip (.exit 0))) (.seq (.block 1 (.seq (.reg Q1000_15) (.block 2 (.loop Q1000_L20)))) (.reg Q1000_20)))
def Q1000_21 : Sts := .op (some 99) (.mv (.t 11)) <|
 .op (some 100) (.bin .neq (.t 99) (.c (.int .i64 0))) <|
 .op (some 101) (.mv (.t 100)) <|
 .cnd 101 false (
 .op (some 102) (.mv (.t 13)) <|
 .op (some 103) (.bin .neq (.t 102) (.c (.int .i64 0))) <|
 .nil) 104 (.t 103) <|
 .op (some 105) (.mv (.t 104)) <|
 .cnd 105 false (
 .op (some 106) (.mv (.t 14)) <|
 .op (some 107) (.faddr 0 (.t 10)) <|
 .op (some 108) (.loadS (.t 107)) <|
 .op (some 109) (.len (.t 108)) <|
 .op (some 110) (.bin .neq (.t 106) (.t 109)) <|
 .nil) 111 (.t 110) <|
 .nil
def Q1000_22 : Sts := .op (some 2) (.mv (.c (.bool false))) <|
 .nil
def Q1000_23 : Sts := .op (some 112) (.mv (.t 14)) <|
 .op (some 113) (.bin .eql (.t 112) (.c (.int .i64 0))) <|
 .nil
def Q1000_24 : Sts := .op (some 2) (.mv (.c (.bool true))) <|
 .nil
def Q1000_25 : AT := .q (.op 0 (some 114) (.mv (.t 5)) <|
 .op 1 (some 115) (.conv .u64 (.t 114)) <|
 .op 2 (some 116) (.mv (.t 14)) <|
 .op 3 (some 117) (.conv .u64 (.t 116)) <|
 .op 4 (some 118) (.bin .rem (.t 115) (.t 117)) <|
 .op 5 (some 119) (.conv .i64 (.t 118)) <|
 .op 6 (some 120) (.mv (.t 6)) <|
 .op 7 (some 121) (.conv .u64 (.t 120)) <|
 .op 8 (some 122) (.mv (.t 14)) <|
 .op 9 (some 123) (.conv .u64 (.t 122)) <|
 .op 10 (some 124) (.bin .rem (.t 121) (.t 123)) <|
 .op 11 (some 125) (.conv .i64 (.t 124)) <|
 .op 12 (some 126) (.mv (.t 7)) <|
 .op 13 (some 127) (.conv .u64 (.t 126)) <|
 .op 14 (some 128) (.mv (.t 14)) <|
 .op 15 (some 129) (.conv .u64 (.t 128)) <|
 .op 16 (some 130) (.bin .rem (.t 127) (.t 129)) <|
 .op 17 (some 131) (.conv .i64 (.t 130)) <|
 .op 18 (some 18) (.mv (.t 119)) <|
 .op 19 (some 19) (.mv (.t 125)) <|
 .op 20 (some 20) (.mv (.t 131)) <|
 .nil) <|
 .fin
def Q1000_26 : Sts := .op (some 133) (.loadA 1 (.t 3)) <|
 .op (some 134) (.loadA 4 (.t 10)) <|
 .op (some 135) (.mv (.t 18)) <|
 .op (some 136) (.mv (.t 19)) <|
 .op (some 137) (.call 27 [(.t 133), (.t 134), (.t 135), (.t 136)]) <|
 .op (some 132) (.mv (.t 137)) <|
 .op (some 138) (.extract 0 (.t 132)) <|
 .op (some 139) (.extract 1 (.t 132)) <|
 .op (some 21) (.mv (.t 138)) <|
 .op (some 22) (.mv (.t 139)) <|
 .nil
def Q1000_27 : Sts := .op (some 141) (.loadA 1 (.t 3)) <|
 .op (some 142) (.loadA 4 (.t 10)) <|
 .op (some 143) (.mv (.t 19)) <|
 .op (some 144) (.mv (.t 20)) <|
 .op (some 145) (.call 27 [(.t 141), (.t 142), (.t 143), (.t 144)]) <|
 .op (some 140) (.mv (.t 145)) <|
 .op (some 146) (.extract 0 (.t 140)) <|
 .op (some 147) (.extract 1 (.t 140)) <|
 .op (some 23) (.mv (.t 146)) <|
 .op (some 24) (.mv (.t 147)) <|
 .nil
def Q1000_28 : Sts := .op (some 149) (.loadA 1 (.t 3)) <|
 .op (some 150) (.loadA 4 (.t 10)) <|
 .op (some 151) (.mv (.t 18)) <|
 .op (some 152) (.mv (.t 20)) <|
 .op (some 153) (.call 27 [(.t 149), (.t 150), (.t 151), (.t 152)]) <|
 .op (some 148) (.mv (.t 153)) <|
 .op (some 154) (.extract 0 (.t 148)) <|
 .op (some 155) (.extract 1 (.t 148)) <|
 .op (some 25) (.mv (.t 154)) <|
 .op (some 26) (.mv (.t 155)) <|
 .nil
def Q1000_29 : Sts := .op (some 157) (.loadA 1 (.t 3)) <|
 .op (some 158) (.loadA 4 (.t 10)) <|
 .op (some 159) (.mv (.t 18)) <|
 .op (some 160) (.mv (.t 18)) <|
 .op (some 161) (.call 27 [(.t 157), (.t 158), (.t 159), (.t 160)]) <|
 .op (some 156) (.mv (.t 161)) <|
 .op (some 162) (.extract 0 (.t 156)) <|
 .op (some 163) (.extract 1 (.t 156)) <|
 .op (some 27) (.mv (.t 162)) <|
 .op (some 28) (.mv (.t 163)) <|
 .nil
def Q1000_30 : Sts := .op (some 165) (.loadA 1 (.t 3)) <|
 .op (some 166) (.loadA 4 (.t 10)) <|
 .op (some 167) (.mv (.t 18)) <|
 .op (some 168) (.mv (.t 14)) <|
 .op (some 169) (.call 27 [(.t 165), (.t 166), (.t 167), (.t 168)]) <|
 .op (some 164) (.mv (.t 169)) <|
 .op (some 170) (.extract 0 (.t 164)) <|
 .op (some 171) (.extract 1 (.t 164)) <|
 .op (some 29) (.mv (.t 170)) <|
 .op (some 30) (.mv (.t 171)) <|
 .nil
def Q1000_31 : Sts := .op (some 172) (.mv (.t 22)) <|
 .op (some 173) (.bin .neq (.t 172) (.c (.int .i64 0))) <|
 .op (some 174) (.mv (.t 173)) <|
 .cnd 174 false (
 .op (some 175) (.mv (.t 24)) <|
 .op (some 176) (.bin .neq (.t 175) (.c (.int .i64 0))) <|
 .nil) 177 (.t 176) <|
 .op (some 178) (.mv (.t 177)) <|
 .cnd 178 false (
 .op (some 179) (.mv (.t 26)) <|
 .op (some 180) (.bin .neq (.t 179) (.c (.int .i64 0))) <|
 .nil) 181 (.t 180) <|
 .op (some 182) (.mv (.t 181)) <|
 .cnd 182 false (
 .op (some 183) (.mv (.t 28)) <|
 .op (some 184) (.bin .neq (.t 183) (.c (.int .i64 0))) <|
 .nil) 185 (.t 184) <|
 .op (some 186) (.mv (.t 185)) <|
 .cnd 186 false (
 .op (some 187) (.mv (.t 30)) <|
 .op (some 188) (.bin .neq (.t 187) (.c (.int .i64 1))) <|
 .nil) 189 (.t 188) <|
 .op (some 190) (.mv (.t 189)) <|
 .cnd 190 false (
 .op (some 191) (.mv (.t 27)) <|
 .nil) 192 (.t 191) <|
 .nil
def Q1000_32 : Sts := .op (some 2) (.mv (.c (.bool false))) <|
 .nil
def Q1000_33 : AT := .q (.op 0 (some 193) (.mv (.t 21)) <|
 .op 1 (some 194) (.mv (.t 193)) <|
 .g 194 true (
 .op 2 (some 195) (.mv (.t 23)) <|
 .nil) 3 196 (.t 195) <|
 .op 4 (some 197) (.mv (.t 196)) <|
 .g 197 true (
 .op 5 (some 198) (.mv (.t 25)) <|
 .op 6 (some 199) (.notb (.t 198)) <|
 .nil) 7 200 (.t 199) <|
 .op 8 (some 201) (.notb (.t 200)) <|
 .op 9 (some 202) (.mv (.t 201)) <|
 .g 202 true (
 .op 10 (some 203) (.mv (.t 15)) <|
 .op 11 (some 204) (.mv (.t 18)) <|
 .op 12 (some 205) (.iaddrS 1 (.t 203) (.t 204)) <|
 .op 13 (some 206) (.loadI .i64 (.t 205)) <|
 .op 14 (some 207) (.mv (.t 15)) <|
 .op 15 (some 208) (.mv (.t 19)) <|
 .op 16 (some 209) (.iaddrS 1 (.t 207) (.t 208)) <|
 .op 17 (some 210) (.loadI .i64 (.t 209)) <|
 .op 18 (some 211) (.bin .eql (.t 206) (.t 210)) <|
 .op 19 (some 212) (.mv (.t 211)) <|
 .g 212 true (
 .op 20 (some 213) (.mv (.t 21)) <|
 .op 21 (some 214) (.mv (.t 18)) <|
 .op 22 (some 215) (.mv (.t 19)) <|
 .op 23 (some 216) (.bin .lss (.t 214) (.t 215)) <|
 .op 24 (some 217) (.eqb true (.t 213) (.t 216)) <|
 .nil) 25 218 (.t 217) <|
 .op 26 (some 219) (.notb (.t 218)) <|
 .nil) 27 220 (.t 219) <|
 .op 28 (some 2) (.mv (.t 220)) <|
 .nil) <|
 .fin
def Q1000 : RFun := ⟨221, [0, 1, 2, 3, 4, 5, 6, 7, 8, 9, 10, 11, 12, 13, 14, 15, 16, 17, 18, 19, 20, 21, 22, 23, 24, 25, 26, 27, 28, 30], (.seq (.reg Q1000_0) (.seq (.any Q1000_1) (.seq (.seq (.reg Q1000_2) (.cond (.t 42) (.seq (.reg Q1000_3) .ret) .skip)) (.seq (.reg Q1000_4) (.seq (.seq (.reg Q1000_5) (.cond (.t 49) (.seq (.reg Q1000_6) .ret) .skip)) (.seq (.seq (.reg Q1000_7) (.cond (.t 55) (.seq (.reg Q1000_8) .ret) .skip)) (.seq (.any Q1000_9) (.seq (.reg Q1000_10) (.seq (.reg Q1000_11) (.seq (.reg Q1000_12) (.seq (.seq (.reg Q1000_13) (.block 0 (.loop Q1000_L21))) (.seq (.seq (.reg Q1000_21) (.cond (.t 111) (.seq (.reg Q1000_22) .ret) .skip)) (.seq (.seq (.reg Q1000_23) (.cond (.t 113) (.seq (.reg Q1000_24) .ret) .skip)) (.seq (.any Q1000_25) (.seq (.reg Q1000_26) (.seq (.reg Q1000_27) (.seq (.reg Q1000_28) (.seq (.reg Q1000_29) (.seq (.reg Q1000_30) (.seq (.seq (.reg Q1000_31) (.cond (.t 192) (.seq (.reg Q1000_32) .ret) .skip)) (.seq (.any Q1000_33) .ret))))))))))))))))))))), [.tmp 2]⟩
theorem Q1000_ok : compF Tryz.prog [0, 1, 2, 3, 4, 5, 6, 7, 8, 9, 10, 11, 12, 13, 14, 15, 16, 17, 18, 19, 20, 21, 22, 23, 24, 25, 26, 27, 28, 30] [15, 20, 31, 71, 88, 41, 76, 86, 65, 83, 81, 114, 117, 119, 122, 68, 100, 103, 104, 105, 137, 138, 64, 72, 96, 99, 158, 159, 132, 56, 93, 94, 130, 131, 155, 62, 23, 170] 8 = some Q1000 := by kernel_rfl

/- lockless/axiom.Before -/
def Q1001_0 : Sts := .op (some 4) (.box 24 (.t 0)) <|
 .op (some 5) (.box 45 (.t 1)) <|
 .op (some 8) (.mv (.c (.bool false))) <|
 .op (some 9) (.mv (.c (.int .i64 0))) <|
 .nil
def Q1001_1 : Sts := .op (some 13) (.loadA 1 (.t 4)) <|
 .op (some 14) (.call 33 [(.t 13)]) <|
 .op (some 12) (.mv (.t 14)) <|
 .op (some 15) (.extract 0 (.t 12)) <|
 .op (some 16) (.extract 1 (.t 12)) <|
 .op (some 10) (.mv (.t 15)) <|
 .op (some 11) (.mv (.t 16)) <|
 .nil
def Q1001_2 : Sts := .op (some 17) (.mv (.t 11)) <|
 .op (some 18) (.bin .neq (.t 17) (.c (.int .i64 0))) <|
 .nil
def Q1001_3 : Sts := .op (some 19) (.mv (.t 11)) <|
 .op (some 8) (.mv (.c (.bool false))) <|
 .op (some 9) (.mv (.t 19)) <|
 .nil
def Q1001_4 : Sts := .op (some 20) (.mv (.t 10)) <|
 .op (some 21) (.loadA 4 (.t 5)) <|
 .op (some 22) (.call 66 [(.t 20), (.t 21)]) <|
 .op (some 23) (.bin .neq (.t 22) (.c (.int .i64 0))) <|
 .op (some 24) (.mv (.t 23)) <|
 .cnd 24 false (
 .op (some 25) (.mv (.t 2)) <|
 .op (some 26) (.bin .lss (.t 25) (.c (.int .i64 0))) <|
 .nil) 27 (.t 26) <|
 .op (some 28) (.mv (.t 27)) <|
 .cnd 28 false (
 .op (some 29) (.mv (.t 2)) <|
 .op (some 30) (.mv (.t 10)) <|
 .op (some 31) (.len (.t 30)) <|
 .op (some 32) (.bin .geq (.t 29) (.t 31)) <|
 .nil) 33 (.t 32) <|
 .op (some 34) (.mv (.t 33)) <|
 .cnd 34 false (
 .op (some 35) (.mv (.t 3)) <|
 .op (some 36) (.bin .lss (.t 35) (.c (.int .i64 0))) <|
 .nil) 37 (.t 36) <|
 .op (some 38) (.mv (.t 37)) <|
 .cnd 38 false (
 .op (some 39) (.mv (.t 3)) <|
 .op (some 40) (.mv (.t 10)) <|
 .op (some 41) (.len (.t 40)) <|
 .op (some 42) (.bin .geq (.t 39) (.t 41)) <|
 .nil) 43 (.t 42) <|
 .nil
def Q1001_5 : Sts := .op (some 8) (.mv (.c (.bool false))) <|
 .op (some 9) (.mv (.c (.int .i64 1))) <|
 .nil
def Q1001_6 : Sts := .op (some 44) (.mv (.t 10)) <|
 .op (some 45) (.loadA 4 (.t 5)) <|
 .op (some 46) (.call 67 [(.t 44), (.t 45)]) <|
 .op (some 47) (.mv (.t 2)) <|
 .op (some 48) (.mv (.t 3)) <|
 .op (some 49) (.call 68 [(.t 46), (.t 47), (.t 48)]) <|
 .op (some 8) (.mv (.t 49)) <|
 .op (some 9) (.mv (.c (.int .i64 0))) <|
 .nil
def Q1001 : RFun := ⟨50, [0, 1, 2, 3, 4, 5, 8, 9, 10, 11], (.seq (.reg Q1001_0) (.seq (.reg Q1001_1) (.seq (.seq (.reg Q1001_2) (.cond (.t 18) (.seq (.reg Q1001_3) .ret) .skip)) (.seq (.seq (.reg Q1001_4) (.cond (.t 43) (.seq (.reg Q1001_5) .ret) .skip)) (.seq (.reg Q1001_6) .ret))))), [.tmp 8, .tmp 9]⟩
theorem Q1001_ok : compF Tryz.prog [0, 1, 2, 3, 4, 5, 8, 9, 10, 11] [15, 20, 31, 71, 88, 41, 76, 86, 65, 83, 81, 114, 117, 119, 122, 68, 100, 103, 104, 105, 137, 138, 64, 72, 96, 99, 158, 159, 132, 56, 93, 94, 130, 131, 155, 62, 23, 170] 27 = some Q1001 := by kernel_rfl

end Go.EV

namespace Go.EV
open Go.Proofs

section
variable {P : Program}

/-- The contract of an iterator that hands over a row from its head to its end. -/
def IterX {α : Type} (P : Program) (g : FuncId) (first caps : Array Value) (M : PHeap) (L : List α) (El : α → Value → PHeap → Prop) : Prop :=
 ∀ (l : Nat) (I : Nat → PHeap → Own → Prop) (S : PHeap → Own → Prop) (M1 : PHeap) (G : Own), M.le M1 →
  (∀ i (h : i < L.length), ∀ M2 G2 v, M1.le M2 → I i M2 G2 → El L[i] v M2 → YCon P l #[v] M2 G2 fun b M3 G3 => (b = .bool true ∧ I (i + 1) M3 G3) ∨ (b = .bool false ∧ S M3 G3)) →
  I 0 M1 G → Con P g (first ++ #[yv l] ++ caps) M1 G fun _ M' G' => I L.length M' G' ∨ S M' G'
theorem IterX.mono {α : Type} {g : FuncId} {first caps : Array Value} {M M' : PHeap} {L : List α} {El : α → Value → PHeap → Prop} (h : IterX P g first caps M L El) (hM : M.le M') : IterX P g first caps M' L El :=
 fun l I S M1 G hle => h l I S M1 G (PHeap.le_trans hM hle)
variable {α : Type} {C : Cx P} {V : List Nat} {k : List RItem} {ρ : Env} {M : PHeap} {G : Own} {f : A} {ps : List Nat} {asg bd : RCode} {fv : Value} {g : FuncId} {first caps : Array Value}

theorem iter_roundsX {L : List α} {El : α → Value → PHeap → Prop} (hit : IterX P g first caps M L El) (I : Nat → PHeap → Own → Prop) (S : Code → PHeap → Own → Prop)
  {l : Nat} {r : Loop} {fn : FuncId} {nt t : Nat} (hr : LoopIs P V r fn nt [t] asg bd ρ)
  (hbody : ∀ i (h : i < L.length) v M2 G2 w0 F, M.le M2 → I i M2 G2 → El L[i] v M2 → EV (Cx.rnd P l r fn nt w0 F M2 (I (i + 1)) S) V [.code asg, .begins, .code bd] ((t, v) :: ρ) M2 ((l, Obj.loop r) :: G2))
  {G0 : Own} (hI : I 0 M G0) :
  Con P g (first ++ #[yv l] ++ caps) M ((l, Obj.loop r) :: G0) fun _ M' G' => (∃ G1, G'.Perm ((l, Obj.loop r) :: G1) ∧ I L.length M' G1) ∨ (∃ c G1, G'.Perm ((l, Obj.loop { r with state := .done, pending := some c }) :: G1) ∧ S c M' G1) := by
 have := hit l (fun xs M2 G2 => ∃ G1, G2.Perm ((l, Obj.loop r) :: G1) ∧ I xs M2 G1) (fun M2 G2 => ∃ c G1, G2.Perm ((l, Obj.loop { r with state := .done, pending := some c }) :: G1) ∧ S c M2 G1) M ((l, Obj.loop r) :: G0) (PHeap.le_refl _)
  ?_ ⟨G0, List.Perm.refl _, hI⟩
 ·exact this
 ·rintro i hi M2 G2 v hM2 ⟨G1, hp, h2⟩ hv
  have hy : YCon P l [v].toArray M2 ((l, Obj.loop r) :: G1) (RoundΦ l r (I (i + 1)) S) :=
   YCon.enter (List.mem_cons_self ..) hr rfl fun w0 => hbody i hi v M2 G1 w0 _ hM2 h2 hv
  intro w hs
  obtain ⟨r', e1, e2, e3⟩ := hy w (by
   have hs' := hs.perm hp
   have : St w ((((l, Obj.loop r) :: G1)).map (·.1)) M2 M2 ((l, Obj.loop r) :: G1) w := St.enter hs'.agree hs'.own hs'.sep hs'.nodup
   exact this)
  refine ⟨r', e1, e2, e3.mono ?_⟩
  rintro b w' ⟨M', G', k1, k2⟩
  refine ⟨M', G', ?_, ?_⟩
  ·have hmem : ∀ b, b ∈ (((l, Obj.loop r) :: G1).map (·.1)) ↔ b ∈ G2.map (·.1) := fun b => ((hp.map (·.1)).mem_iff).symm
   exact ⟨k1.os, k1.tape, k1.output, k1.size, fun b hb hf => k1.frame b hb (fun h => hf ((hmem b).1 h)), k1.agree, k1.own, k1.sep, fun p hp' => (k1.new p hp').imp (hmem _).1 id, k1.nodup, k1.base,
    fun b o hm => (k1.fresh b o hm).imp id fun h => h.imp (hmem _).1 id⟩
  ·rcases k2 with ⟨rfl, G3, h3, h4⟩ | ⟨rfl, c, G3, h3, h4⟩
   ·exact .inl ⟨rfl, G3, h3, h4⟩
   ·exact .inr ⟨rfl, c, G3, h3, h4⟩

theorem EV.overX {L : List α} {El : α → Value → PHeap → Prop} (hro : C.b.roundOf = none) (hfv : ev ρ f = some fv) (hfn : fn? fv = some (g, first, caps)) (hit : IterX P g first caps M L El)
  (I : Nat → Nat → PHeap → Own → Prop) (S : Nat → Code → PHeap → Own → Prop) {t : Nat}
  (hI : ∀ d, I d 0 M ((d, Obj.deferred (some [])) :: G))
  (hbody : ∀ l d (r : Loop), r.state = .ready → r.pending = none → ∀ i (h : i < L.length) v M2 G2 w0 F, M.le M2 → I d i M2 G2 → El L[i] v M2 →
   EV (Cx.rnd P l r C.b.fn C.nt w0 F M2 (I d (i + 1)) (S d)) V [.code asg, .begins, .code bd] ((t, v) :: ρ) M2 ((l, Obj.loop r) :: G2))
  (hend : ∀ d M' G', M.le M' → I d L.length M' G' → EV (C.marks [d]) V k ρ M' G')
  (hjump : ∀ d c M' G', M.le M' → S d c M' G' → AfterW (C.marks [d]) V k ρ c M' G') :
  EV C V (.code (.rangeF f [t] asg bd) :: k) ρ M G := by
 refine EV.rangeF hro hfv hfn fun l d r hr h1 h2 => ?_
 refine Con.callA (G2 := []) (iter_roundsX hit (I d) (S d) hr (fun i hi v M2 G2 w0 F => hbody l d r h1 h2 i hi v M2 G2 w0 F) (hI d)) (by simp) ?_
 rintro v M' G' hM' (⟨G1, hp, h3⟩ | ⟨c, G1, hp, h3⟩)
 ·refine ⟨r, G1, by simpa using hp, by rw [h1]; simp, ?_⟩
  rw [h2]; exact hend d M' G1 hM' h3
 ·refine ⟨_, G1, by simpa using hp, by simp, ?_⟩
  have := hjump d c M' G1 hM' h3
  cases c <;> first | exact this | exact this.elim
end

section
variable {M : PHeap}

/-- An iterator of numbers hands over a number. -/
def ElN (x : Int) (v : Value) (_ : PHeap) : Prop := v = vi x

set_option maxHeartbeats 4000000 in
theorem sl_Values_it (xs : List Int) (s : Value) (hs : Sl M 1 ei s xs) (hl : xs.length ≤ 281474976710656) {b : Nat} (hb : rd M b 0 1 [s]) : IterX Tryz.prog 168 #[] #[pv b 0] M xs ElN := by
 obtain ⟨a, c, rfl, hr⟩ := hs
 intro l I S M1 G hM1 hy hI
 have hb1 := hb.mono hM1
 have hr1 := hr.mono hM1
 refine Con.enter Q90_ok (args := [yv l, pv b 0]) (by simp [Q90]) fun w0 => ?_
 simp only [Q90, argE]
 repeat' first
   | refine EV.seq ?_
   | refine EV.block ?_
   | (refine EV.reg ?_; (conv => (arg 2; whnf)); (refine nx ?_; try with_reducible exact ⟨⟩))
   | (refine Exists.intro _ (Exists.intro _ (Exists.intro _ (And.intro (rd_M (by assumption)) ?_))); try (refine nx ?_; try with_reducible exact ⟨⟩))
   | fail
 refine EV.loopTo (fun x : Nat × PHeap × Own => ([(0, yv l), (1, pv b 0), (5, .slice a xs.length c), (6, vi xs.length), (7, vi x.1)], x.2.1, x.2.2)) (fun x => x.1 ≤ xs.length ∧ M1.le x.2.1 ∧ I x.1 x.2.1 x.2.2) (fun x => xs.length - x.1) (0, M1, G) rfl ⟨Nat.zero_le _, PHeap.le_refl _, hI⟩ ?env1 (List.Sublist.refl _) ?_
 case env1 =>
  repeat' first
   | (refine List.forall_mem_cons.2 (And.intro ?_ ?_))
   | (intro _ hnil; cases hnil; done)
   | rfl
   | fail
 rintro ⟨i, Mi, Gi⟩ ⟨hi, hMi, hIi⟩ ih
 dsimp only at hi hMi hIi ih ⊢
 repeat' first
   | refine EV.seq ?_
   | refine EV.skip ?_
   | refine EV.block ?_
   | (refine EV.reg ?_; (conv => (arg 2; whnf)); (refine nx ?_; try with_reducible exact ⟨⟩))
   | (refine EV.condX rfl (fun h => ?_) (fun h => ?_) <;> try exact dead h)
   | (refine EV.exit rfl ?_)
   | fail
 ·have hi' : i < xs.length := by omega
  obtain ⟨rb, ro, rfl, hat⟩ := Sl.at (sz := 1) (enc := ei) (fun _ => rfl) (by decide) hr1 (by omega)
  have hri := (hat i hi').mono hMi
  rw [Nat.mul_one] at hri
  repeat' first
    | refine EV.seq ?_
    | (refine EV.reg ?_; (conv => (arg 2; whnf)); (refine nx ?_; try with_reducible exact ⟨⟩))
    | (refine And.intro (by omega) ?_)
    | (refine Exists.intro _ (And.intro (rd_M (by assumption)) ?_); try (refine nx ?_; try with_reducible exact ⟨⟩))
    | fail
  refine YCon.run (hy i hi' Mi Gi _ hMi hIi rfl) ?_
  rintro bv M2 G2 hM2 (⟨rfl, hI2⟩ | ⟨rfl, hS2⟩)
  ·repeat' first
    | refine EV.skip ?_
    | refine EV.inBlock ?_
    | (refine EV.reg ?_; (conv => (arg 2; whnf)); (refine nx ?_; try with_reducible exact ⟨⟩))
    | (refine EV.condX rfl (fun h => ?_) (fun h => ?_) <;> try exact dead h)
    | fail
   have ih3 := ih (i + 1, M2, G2) ⟨by dsimp only; omega, PHeap.le_trans hMi hM2, hI2⟩ (by dsimp only; omega)
   dsimp only at ih3
   refine EV.to ih3 ?_ (List.Sublist.refl _)
   repeat' first
    | (refine List.forall_mem_cons.2 (And.intro ?_ ?_))
    | (intro _ hnil; cases hnil; done)
    | rfl
    | (refine env_w64 rfl (by first | rfl | (push_cast; first | rfl | omega)) (by omega) (by omega); done)
    | fail
  ·repeat' first
    | (refine EV.condX rfl (fun h => ?_) (fun h => ?_) <;> try exact dead h)
    | fail
   refine EV.ret Q90_ok ?_
   simp only [wpS, wpA, wpQL, push_cast, Int.cast_ofNat_Int, reduceIte, Nat.reduceEqDiff, reduceCtorEq, Nat.reduceAdd, Nat.reduceSub, Nat.reduceMul, Int.reduceToNat, Nat.reduceLeDiff, Q90]
   exact .inr hS2
 ·have hie : i = xs.length := by omega
  subst hie
  refine EV.done Q90_ok ?_
  simp only [wpS, wpA, wpQL, push_cast, Int.cast_ofNat_Int, reduceIte, Nat.reduceEqDiff, reduceCtorEq, Nat.reduceAdd, Nat.reduceSub, Nat.reduceMul, Int.reduceToNat, Nat.reduceLeDiff, Q90]
  exact .inl hIi

theorem sl_Values_c (xs : List Int) (s : Value) (hs : Sl M 1 ei s xs) (hl : xs.length ≤ 281474976710656) : Con Tryz.prog 157 #[s] M [] fun v M' G' => M.le M' ∧ G' = [] ∧ ∃ g caps, v = .func (.func g) #[] caps ∧ IterX Tryz.prog g #[] caps M' xs ElN := by
 have hs0 := hs
 obtain ⟨a, c, rfl, hr⟩ := hs
 refine Con.enter Q89_ok (args := [.slice a xs.length c]) (by simp [Q89]) fun w0 => ?_
 simp only [Q89, argE]
 repeat' first
   | refine EV.seq ?_
   | (refine EV.reg ?_; (conv => (arg 2; whnf)); (refine nx ?_; try with_reducible exact ⟨⟩))
   | (with_reducible intro b; try (refine nx ?_; try with_reducible exact ⟨⟩))
   | fail
 refine EV.keepS [] ?_
 generalize hR : M.add _ = N
 have hMN : M.le N := hR ▸ PHeap.le_add _ _
 have hb : rd N b 0 1 [.slice a xs.length c] := hR ▸ rd_at (T := 34) (cs := [.slice a xs.length c]) (by simp) rfl (by simp)
 clear hR
 refine EV.ret Q89_ok ?_
 simp only [wpS, wpA, wpQL, push_cast, Int.cast_ofNat_Int, reduceIte, Nat.reduceEqDiff, reduceCtorEq, Nat.reduceAdd, Nat.reduceSub, Nat.reduceMul, Int.reduceToNat, Nat.reduceLeDiff, Q89]
 exact ⟨hMN, _, _, rfl, sl_Values_it xs _ (hs0.mono hMN) hl hb⟩

set_option maxHeartbeats 4000000 in
theorem sl_AppendSeq_c (xs : List Int) (hl : xs.length * 8 ≤ 140737488355328) {g : Nat} {caps : Array Value} (hit : IterX Tryz.prog g #[] caps M xs ElN) : Con Tryz.prog 172 #[.slice none 0 0, .func (.func g) #[] caps] M [] (Ints xs) := by
 refine Con.enter Q74_ok (args := [.slice none 0 0, .func (.func g) #[] caps]) (by simp [Q74]) fun w0 => ?_
 simp only [Q74, argE]
 repeat' first
   | refine EV.seq ?_
   | refine EV.block ?_
   | (refine EV.reg ?_; (conv => (arg 2; whnf)); (refine nx ?_; try with_reducible exact ⟨⟩))
   | (with_reducible intro b; try (refine nx ?_; try with_reducible exact ⟨⟩))
   | fail
 obtain ⟨sb, rfl⟩ : ∃ x, x = b := ⟨_, rfl⟩
 refine EV.overX rfl rfl rfl hit (fun d i M G' => ∃ ov : Vec, osok 1 ov i ((xs.take i).map vi) ∧ G'.Perm ((d, Obj.deferred (some [])) :: (sb, Cl 34 [osv ov i]) :: osg 3 ov ((xs.take i).map vi)))
  (fun d c M G' => False) ?_ ?_ ?_ ?_
 ·intro d
  exact ⟨none, ⟨rfl, rfl⟩, List.Perm.refl _⟩
 ·intro l d r hr1 hr2 i hi v M4 G4 w1 F hM4 ⟨ov, hov, hp4⟩ hel
  cases hel
  refine EV.permG ?_ (List.Perm.cons _ hp4)
  repeat' first
    | (refine EV.reg ?_; (conv => (arg 2; whnf)); (refine nx ?_; try with_reducible exact ⟨⟩))
    | fail
  refine EV.rbegin hr1 ?_
  repeat' first
    | refine EV.block ?_
    | (refine EV.reg ?_; (conv => (arg 2; whnf)); (refine nx ?_; try with_reducible exact ⟨⟩))
    | ((first | with_reducible intro b | refine xsA rfl ?_ | fail); try (refine nx ?_; try with_reducible exact ⟨⟩))
    | fail
  refine ⟨[vi xs[i]], Or.inr ⟨_, 0, rfl, rd_at (T := 3) (cs := [vi xs[i]]) (by simp) rfl (by simp)⟩, by simp [ok1_cons, ok1_nil, Value.oneCell'], Or.inl ⟨ov, _, rfl, _, hov, _, PullL.p, by simp only [maxLen]; omega, by omega, fun o2 ho2 hnn => ?_⟩⟩
  have e2 : (xs.take i).map vi ++ [vi xs[i]] = (xs.take (i + 1)).map vi := by rw [List.take_succ_eq_append_getElem hi, List.map_append]; rfl
  rw [e2] at ho2 ⊢
  simp only [List.cons_append, List.nil_append]
  repeat' first
    | refine EV.inBlock ?_
    | (refine xw ?_; (refine nx ?_; try with_reducible exact ⟨⟩))
    | fail
  refine EV.reS (G' := (l, Obj.loop { r with state := .busy }) :: (d, Obj.deferred (some [])) :: (sb, Cl 34 [osv o2 (i + 1)]) :: osg 3 o2 ((xs.take (i + 1)).map vi)) ?_
  exact EV.rend hr1 hr2 (List.Perm.refl _) ⟨o2, ho2, List.Perm.refl _⟩
 ·rintro d M4 G4 hM4 ⟨ov, hov, hp4⟩
  rw [List.take_length] at hov hp4
  refine EV.permG ?_ hp4
  repeat' first
    | refine EV.seq ?_
    | refine EV.inBlock ?_
    | (refine EV.reg ?_; (conv => (arg 2; whnf)); (refine nx ?_; try with_reducible exact ⟨⟩))
    | (refine xsA rfl ?_; try (refine nx ?_; try with_reducible exact ⟨⟩))
    | fail
  refine EV.reS (G' := (d, Obj.deferred (some [])) :: osg 3 ov (xs.map vi)) ?_
  refine EV.retM Q74_ok (ms := [d]) (G1 := osg 3 ov (xs.map vi)) (List.Perm.refl _) ?_
  simp only [wpS, wpA, wpQL, push_cast, Int.cast_ofNat_Int, reduceIte, Nat.reduceEqDiff, reduceCtorEq, Nat.reduceAdd, Nat.reduceSub, Nat.reduceMul, Int.reduceToNat, Nat.reduceLeDiff, Q74]
  exact ⟨ov, rfl, hov, rfl⟩
 ·intro d c M4 G4 hM4 h
  exact h.elim

theorem sl_Collect_c (xs : List Int) (hl : xs.length * 8 ≤ 140737488355328) {g : Nat} {caps : Array Value} (hit : IterX Tryz.prog g #[] caps M xs ElN) : Con Tryz.prog 166 #[.func (.func g) #[] caps] M [] (Ints xs) := by
 refine Con.enter Q78_ok (args := [.func (.func g) #[] caps]) (by simp [Q78]) fun w0 => ?_
 simp only [Q78, argE]
 repeat' first
   | refine EV.seq ?_
   | (refine EV.reg ?_; (conv => (arg 2; whnf)); (refine nx ?_; try with_reducible exact ⟨⟩))
   | fail
 refine Con.callS (G1 := []) (sl_AppendSeq_c xs hl hit) ?_
 rintro v1 M1 G1 hM1 ⟨o1, rfl, ho1, rfl⟩
 repeat' first
   | fail
 refine EV.reS (G' := osg 3 o1 (xs.map vi)) ?_
 refine EV.ret Q78_ok ?_
 simp only [wpS, wpA, wpQL, push_cast, Int.cast_ofNat_Int, reduceIte, Nat.reduceEqDiff, reduceCtorEq, Nat.reduceAdd, Nat.reduceSub, Nat.reduceMul, Int.reduceToNat, Nat.reduceLeDiff, Q78]
 exact ⟨o1, rfl, ho1, rfl⟩

end
end Go.EV

namespace Go.EV
open Go.Proofs
variable {P : Program}

set_option maxHeartbeats 1000000 in
theorem Con.sortI {ρ : Go.Shelf.Ren} (L : SlLaysN.n53 P ρ) {M : PHeap} (hgo : isGo P (ρ.f 53) = true) {b : Nat} {T : TypeId} {xs : List Int} {sp : List Value} {c : Nat} (hlen : xs.length < 4611686018427387904) :
  Con P (ρ.f 53) #[.slice (some ⟨b, 0, none⟩) xs.length c] M [(b, Cl T (xs.map (Value.int .i64) ++ sp))] fun v M' G' =>
   v = .tuple #[] ∧ M' = M ∧ G' = [(b, Cl T ((xs.mergeSort fun x y => decide (x ≤ y)).map (Value.int .i64) ++ sp))] := by
 refine ⟨hgo, fun w hs => ?_⟩
 have hb := hs.own (b, _) (List.mem_singleton_self ..)
 have hblt := hs.lt (List.mem_singleton_self ..)
 dsimp only at hb hblt
 have hH := holds_row (Value.int .i64) hb
 have hsep : ∀ b' o, M b' o → b' ≠ b := fun b' o hm e => hs.sep _ (List.mem_singleton_self ..) o (e ▸ hm)
 refine (AnyG.slices_Sort_int L b 0 c xs w hH hblt hlen).mono ?_
 rintro e w' ⟨rfl, n, os, rfl⟩
 obtain ⟨d, hd⟩ : ∃ d, d = (xs.mergeSort fun x y => decide (x ≤ y)).toArray := ⟨_, rfl⟩
 rw [← hd]
 have hsz' : d.size = xs.length := by rw [hd]; simp
 have hdl : d.toList = xs.mergeSort fun x y => decide (x ≤ y) := by rw [hd]
 rw [← hdl]
 refine ⟨_, rfl, M, [(b, Cl T (d.toList.map (Value.int .i64) ++ sp))], ?_, rfl, rfl, rfl⟩
 have hrow := putRow_block (Value.int .i64) (Go.Sort.ahead w n) b d (T := T) (cs := xs.map (Value.int .i64) ++ sp) hb (by simp [hsz'])
 rw [hsz', List.drop_left' (by simp)] at hrow
 have hsize : w.heap.size ≤ (Go.Sort.grow (Go.Sort.putRow (Value.int .i64) (Go.Sort.ahead w n) b 0 d) os).heap.size := by
  show _ ≤ ((Go.Sort.putRow (Value.int .i64) (Go.Sort.ahead w n) b 0 d).heap ++ os).size
  rw [Array.size_append, putRow_size]; exact Nat.le_add_right _ _
 have hother : ∀ k, k < w.heap.size → k ≠ b → (Go.Sort.grow (Go.Sort.putRow (Value.int .i64) (Go.Sort.ahead w n) b 0 d) os).heap[k]? = w.heap[k]? := fun k hk hne => by
  show ((Go.Sort.putRow (Value.int .i64) (Go.Sort.ahead w n) b 0 d).heap ++ os)[k]? = _
  rw [Array.getElem?_append_left (by rw [putRow_size]; exact hk), putRow_other _ _ _ _ _ hne]; rfl
 have hat : (Go.Sort.grow (Go.Sort.putRow (Value.int .i64) (Go.Sort.ahead w n) b 0 d) os).heap[b]? = some (Cl T (d.toList.map (Value.int .i64) ++ sp)) := by
  show ((Go.Sort.putRow (Value.int .i64) (Go.Sort.ahead w n) b 0 d).heap ++ os)[b]? = _
  rw [Array.getElem?_append_left (by rw [putRow_size]; exact hblt)]; exact hrow
 refine ⟨rfl, ⟨rfl, Nat.le_add_right _ _⟩, rfl, hsize, fun k hk hf => hother k hk (fun e => hf (by simp [e])), fun k o hk => (hother k (hs.ltM hk) (hsep k o hk)).trans (hs.agree k o hk), ?_, ?_, ?_, by simp, PHeap.le_refl _, fun k o hk => .inl hk⟩
 ·intro p hp; rw [List.mem_singleton] at hp; subst hp; exact hat
 ·intro p hp o hm; rw [List.mem_singleton] at hp; subst hp; exact hsep _ _ hm rfl
 ·intro p hp; rw [List.mem_singleton] at hp; subst hp; exact .inl (by simp)

theorem Con.sortINone {ρ : Go.Shelf.Ren} (L : SlLaysN.n53 P ρ) (hgo : isGo P (ρ.f 53) = true) {M : PHeap} (p : Option Addr) (cap : Nat) :
  Con P (ρ.f 53) #[.slice p 0 cap] M [] fun v M' G' => v = .tuple #[] ∧ M' = M ∧ G' = [] := by
 refine ⟨hgo, fun w hs => (AnyG.slices_Sort_int_none L p cap w).mono ?_⟩
 rintro e w' ⟨rfl, rfl⟩
 exact ⟨_, rfl, M, [], hs, rfl, rfl, rfl⟩

end Go.EV

namespace Go.Proofs
open Go.Shelf Go.RowKit Go.Lib Go.Sort
def Tryz.sortInts_ren : Go.Shelf.Ren := ⟨fun | 53 => 167 | 64 => 126 | 63 => 173 | 78 => 150 | 79 => 151 | 70 => 176 | 71 => 177 | 72 => 178 | 73 => 179 | 74 => 180 | 75 => 181 | 59 => 182 | 76 => 183 | 77 => 184 | 88 => 186 | 89 => 161 | 90 => 162 | 91 => 187 | 92 => 188 | 68 => 152 | 96 => 189 | n => n, fun | 22 => 34 | 23 => 3 | 3 => 3 | 51 => 67 | 0 => 0 | 67 => 144 | 69 => 175 | 4 => 4 | 61 => 167 | 60 => 166 | 44 => 171 | 5 => 5 | 9 => 9 | 75 => 181 | 79 => 185 | 83 => 188 | 84 => 189 | n => n, fun | n => n⟩
theorem Tryz.sortInts : Go.Proofs.SlLaysN.n53 Tryz.prog Tryz.sortInts_ren := {
 mixed := by kernel_rfl
 f53 := ⟨Tryz.f167.name, by decide, Tryz.func167.trans (congrArg some (by kernel_rfl))⟩
 f59 := ⟨Tryz.f182.name, by decide, Tryz.func182.trans (congrArg some (by kernel_rfl))⟩
 f63 := ⟨Tryz.f173.name, by decide, Tryz.func173.trans (congrArg some (by kernel_rfl))⟩
 f64 := Tryz.func126.trans (congrArg some (by kernel_rfl))
 f68 := ⟨Tryz.f152.name, by decide, Tryz.func152.trans (congrArg some (by kernel_rfl))⟩
 f70 := ⟨Tryz.f176.name, by decide, Tryz.func176.trans (congrArg some (by kernel_rfl))⟩
 f71 := ⟨Tryz.f177.name, by decide, Tryz.func177.trans (congrArg some (by kernel_rfl))⟩
 f72 := ⟨Tryz.f178.name, by decide, Tryz.func178.trans (congrArg some (by kernel_rfl))⟩
 f73 := ⟨Tryz.f179.name, by decide, Tryz.func179.trans (congrArg some (by kernel_rfl))⟩
 f74 := ⟨Tryz.f180.name, by decide, Tryz.func180.trans (congrArg some (by kernel_rfl))⟩
 f75 := ⟨Tryz.f181.name, by decide, Tryz.func181.trans (congrArg some (by kernel_rfl))⟩
 f76 := ⟨Tryz.f183.name, by decide, Tryz.func183.trans (congrArg some (by kernel_rfl))⟩
 f77 := ⟨Tryz.f184.name, by decide, Tryz.func184.trans (congrArg some (by kernel_rfl))⟩
 f78 := Tryz.func150.trans (congrArg some (by kernel_rfl))
 f79 := Tryz.func151.trans (congrArg some (by kernel_rfl))
 f88 := ⟨Tryz.f186.name, by decide, Tryz.func186.trans (congrArg some (by kernel_rfl))⟩
 f89 := Tryz.func161.trans (congrArg some (by kernel_rfl))
 f90 := Tryz.func162.trans (congrArg some (by kernel_rfl))
 f91 := ⟨Tryz.f187.name, by decide, Tryz.func187.trans (congrArg some (by kernel_rfl))⟩
 f92 := ⟨Tryz.f188.name, by decide, Tryz.func188.trans (congrArg some (by kernel_rfl))⟩
 f96 := ⟨Tryz.f189.name, by decide, Tryz.func189.trans (congrArg some (by kernel_rfl))⟩
 t0 := Tryz.underlying0
 a0 := Tryz.isAgg0
 z0 := Tryz.sizeOf0
 v0 := Tryz.zeroValue0
 t3 := Tryz.underlying3
 a3 := Tryz.isAgg3
 z3 := Tryz.sizeOf3
 v3 := Tryz.zeroValue3
 t4 := Tryz.underlying4
 a4 := Tryz.isAgg4
 z4 := Tryz.sizeOf4
 v4 := Tryz.zeroValue4
 t5 := Tryz.underlying5
 a5 := Tryz.isAgg5
 z5 := Tryz.sizeOf5
 v5 := Tryz.zeroValue5
 t9 := Tryz.underlying9
 a9 := Tryz.isAgg9
 z9 := Tryz.sizeOf9
 v9 := Tryz.zeroValue9
 t22 := Tryz.underlying34
 a22 := Tryz.isAgg34
 z22 := Tryz.sizeOf34
 v22 := Tryz.zeroValue34
 t23 := Tryz.underlying3
 a23 := Tryz.isAgg3
 z23 := Tryz.sizeOf3
 v23 := Tryz.zeroValue3
 t44 := Tryz.underlying171
 a44 := Tryz.isAgg171
 z44 := Tryz.sizeOf171
 v44 := Tryz.zeroValue171
 t51 := Tryz.underlying67
 a51 := Tryz.isAgg67
 z51 := Tryz.sizeOf67
 v51 := Tryz.zeroValue67
 t60 := Tryz.underlying166
 a60 := Tryz.isAgg166
 z60 := Tryz.sizeOf166
 v60 := Tryz.zeroValue166
 t61 := Tryz.underlying167
 a61 := Tryz.isAgg167
 z61 := Tryz.sizeOf167
 v61 := Tryz.zeroValue167
 t67 := Tryz.underlying144
 a67 := Tryz.isAgg144
 z67 := Tryz.sizeOf144
 v67 := Tryz.zeroValue144
 t69 := Tryz.underlying175
 a69 := Tryz.isAgg175
 z69 := Tryz.sizeOf175
 v69 := Tryz.zeroValue175
 t75 := Tryz.underlying181
 a75 := Tryz.isAgg181
 z75 := Tryz.sizeOf181
 v75 := Tryz.zeroValue181
 t79 := Tryz.underlying185
 a79 := Tryz.isAgg185
 z79 := Tryz.sizeOf185
 v79 := Tryz.zeroValue185
 t83 := Tryz.underlying188
 a83 := Tryz.isAgg188
 z83 := Tryz.sizeOf188
 v83 := Tryz.zeroValue188
 t84 := Tryz.underlying189
 a84 := Tryz.isAgg189
 z84 := Tryz.sizeOf189
 v84 := Tryz.zeroValue189 }
end Go.Proofs
namespace Go.EV
open Go.Proofs

def srtI (a : List Int) : List Int := a.mergeSort fun x y => decide (x ≤ y)
theorem srt_perm (a : List Int) : (srtI a).Perm a := List.mergeSort_perm a _
theorem srt_len (a : List Int) : (srtI a).length = a.length := (srt_perm a).length_eq
theorem srt_asc (a : List Int) : (srtI a).Pairwise (· ≤ ·) := by
 have := List.pairwise_mergeSort (le := fun x y : Int => decide (x ≤ y)) (fun a b c h1 h2 => by simp at *; omega) (fun a b => by simp; omega) a
 exact this.imp fun h => by simpa using h
theorem asc_perm_uniq : ∀ {l m : List Int}, l.Perm m → l.Pairwise (· ≤ ·) → m.Pairwise (· ≤ ·) → l = m
 | [], m, h, _, _ => (List.nil_perm.1 h).symm
 | a :: l, [], h, _, _ => absurd h.length_eq (by simp)
 | a :: l, b :: m, h, h1, h2 => by
  have h1' := List.pairwise_cons.1 h1
  have h2' := List.pairwise_cons.1 h2
  have hab : a = b := by
   have ha : a ∈ b :: m := h.mem_iff.1 (List.mem_cons_self ..)
   have hb : b ∈ a :: l := h.mem_iff.2 (List.mem_cons_self ..)
   rcases List.mem_cons.1 ha with ha | ha
   ·exact ha
   ·rcases List.mem_cons.1 hb with hb | hb
    ·exact hb.symm
    ·have := h1'.1 b hb
     have := h2'.1 a ha
     omega
  subst hab
  rw [asc_perm_uniq h.cons_inv h1'.2 h2'.2]
/-- Sorted it is an ascending row just if it has its numbers. -/
theorem srt_eq {a b : List Int} (hb : b.Pairwise (· < ·)) : srtI a = b ↔ a.Perm b := by
 constructor
 ·intro h; rw [← h]; exact (srt_perm a).symm
 ·intro h; exact asc_perm_uniq ((srt_perm a).trans h) (srt_asc a) (hb.imp fun h => by omega)

section
variable {M : PHeap}

theorem sl_Sorted_c (xs : List Int) (hl : xs.length * 8 ≤ 140737488355328) {g : Nat} {caps : Array Value} (hit : IterX Tryz.prog g #[] caps M xs ElN) : Con Tryz.prog 156 #[.func (.func g) #[] caps] M [] (Ints (srtI xs)) := by
 refine Con.enter Q88_ok (args := [.func (.func g) #[] caps]) (by simp [Q88]) fun w0 => ?_
 simp only [Q88, argE]
 repeat' first
   | refine EV.seq ?_
   | (refine EV.reg ?_; (conv => (arg 2; whnf)); (refine nx ?_; try with_reducible exact ⟨⟩))
   | fail
 refine Con.callS (G1 := []) (sl_Collect_c xs hl hit) ?_
 rintro v1 M1 G1 hM1 ⟨o1, rfl, ho1, rfl⟩
 repeat' first
   | refine EV.seq ?_
   | (refine EV.reg ?_; (conv => (arg 2; whnf)); (refine nx ?_; try with_reducible exact ⟨⟩))
   | fail
 rcases o1 with _ | ⟨rb, cap, sp⟩
 ·obtain ⟨h0, _⟩ := ho1
  have hx : xs = [] := List.length_eq_zero_iff.1 h0
  subst hx
  refine Con.callS (G1 := []) (Con.sortINone (P := Tryz.prog) (ρ := Tryz.sortInts_ren) (M := M1) Tryz.sortInts rfl none 0) ?_
  rintro v2 M2 G2 hM2 ⟨rfl, rfl, rfl⟩
  repeat' first
    | refine EV.seq ?_
    | (refine EV.reg ?_; (conv => (arg 2; whnf)); (refine nx ?_; try with_reducible exact ⟨⟩))
    | fail
  refine EV.reS (G' := []) ?_
  refine EV.ret Q88_ok ?_
  simp only [wpS, wpA, wpQL, push_cast, Int.cast_ofNat_Int, reduceIte, Nat.reduceEqDiff, reduceCtorEq, Nat.reduceAdd, Nat.reduceSub, Nat.reduceMul, Int.reduceToNat, Nat.reduceLeDiff, Q88]
  have h1 : srtI [] = [] := List.length_eq_zero_iff.1 (srt_len [])
  rw [h1]
  exact ⟨none, rfl, ⟨rfl, rfl⟩, rfl⟩
 ·obtain ⟨h1, h2, h3, h4⟩ := ho1
  simp only [osg, oad_some, ocap_some]
  refine Con.callS (G1 := [(rb, Cl 3 (xs.map vi ++ sp))]) (Con.sortI (P := Tryz.prog) (ρ := Tryz.sortInts_ren) (M := M1) Tryz.sortInts rfl (b := rb) (T := 3) (xs := xs) (sp := sp) (c := cap) (by omega)) ?_
  rintro v2 M2 G2 hM2 ⟨rfl, rfl, rfl⟩
  rw [show (xs.mergeSort fun x y => decide (x ≤ y)) = srtI xs from rfl]
  repeat' first
    | refine EV.seq ?_
    | (refine EV.reg ?_; (conv => (arg 2; whnf)); (refine nx ?_; try with_reducible exact ⟨⟩))
    | fail
  refine EV.reS (G' := [(rb, Cl 3 ((srtI xs).map vi ++ sp))]) ?_
  refine EV.ret Q88_ok ?_
  simp only [wpS, wpA, wpQL, push_cast, Int.cast_ofNat_Int, reduceIte, Nat.reduceEqDiff, reduceCtorEq, Nat.reduceAdd, Nat.reduceSub, Nat.reduceMul, Int.reduceToNat, Nat.reduceLeDiff, Q88]
  refine ⟨some (rb, cap, sp), by rw [srt_len], ⟨by simp, by rw [List.length_append, List.length_map, srt_len]; rw [List.length_append, List.length_map] at h2; omega, by rw [srt_len]; exact h3, h4⟩, rfl⟩

theorem sl_Equal3_q (xs ys : List Int) (s t : Value) (hs : Sl M 1 ei s xs) (ht : Sl M 1 ei t ys) (hb : xs.length ≤ 281474976710656) (hb2 : ys.length < 1000000) : ConQ Tryz.prog 41 #[s, t] M (vb (decide (xs = ys))) := by
 by_cases hy : xs.length < 1000000
 ·exact sl_Equal_q xs ys s t hs ht hy hb2
 obtain ⟨a, c, rfl, hrd⟩ := hs
 obtain ⟨a2, c2, rfl, hrd2⟩ := ht
 refine Con.enter Q83_ok (args := [.slice a xs.length c, .slice a2 ys.length c2]) (by simp [Q83]) fun w0 => ?_
 simp only [Q83, argE]
 repeat' first
   | refine EV.seq ?_
   | (refine EV.reg ?_; (conv => (arg 2; whnf)); (refine nx ?_; try with_reducible exact ⟨⟩))
   | (refine EV.condX rfl (fun h => ?_) (fun h => ?_) <;> try exact dead h)
   | fail
 refine EV.ret Q83_ok ?_
 simp only [wpS, wpA, wpQL, push_cast, Int.cast_ofNat_Int, reduceIte, Nat.reduceEqDiff, reduceCtorEq, Nat.reduceAdd, Nat.reduceSub, Nat.reduceMul, Int.reduceToNat, Nat.reduceLeDiff, Q83]
 rw [decide_eq_false (by rintro rfl; exact hy hb2)]

theorem ax_same_q (xs ys : List Int) (s t : Value) (hs : Sl M 1 ei s xs) (ht : Sl M 1 ei t ys) (hb : xs.length * 8 ≤ 140737488355328) (hb2 : ys.length < 1000000) : ConQ Tryz.prog 134 #[s, t] M (vb (decide (srtI xs = ys))) := by
 refine Con.enter Q50_ok (args := [s, t]) (by simp [Q50]) fun w0 => ?_
 simp only [Q50, argE]
 have hv := sl_Values_c xs s hs (by omega)
 obtain ⟨a, c, rfl, hr⟩ := hs
 have ht0 := ht
 obtain ⟨a2, c2, rfl, hr2⟩ := ht
 repeat' first
   | refine EV.seq ?_
   | (refine EV.reg ?_; (conv => (arg 2; whnf)); (refine nx ?_; try with_reducible exact ⟨⟩))
   | fail
 refine Con.callS (G1 := []) hv ?_
 rintro v1 M1 G1 hM1 ⟨_, rfl, g, caps, rfl, hit⟩
 repeat' first
   | fail
 refine Con.callS (G1 := []) (sl_Sorted_c xs hb hit) ?_
 rintro v2 M2 G2 hM2 ⟨o2, rfl, ho2, rfl⟩
 repeat' first
   | fail
 refine ConQ.call (sl_Equal3_q (srtI xs) ys _ _ ?_ ((ht0.mono (PHeap.le_trans hM1 hM2)).mono (PHeap.le_add _ _)) (by rw [srt_len]; omega) hb2) ?_
 ·exact ⟨oad o2, ocap o2, rfl, by rw [flatMap_ei]; exact rd_osg (T := 3) ho2 (fun q hq => by simpa using hq)⟩
 repeat' first
   | fail
 refine EV.ret Q50_ok ?_
 simp only [wpS, wpA, wpQL, push_cast, Int.cast_ofNat_Int, reduceIte, Nat.reduceEqDiff, reduceCtorEq, Nat.reduceAdd, Nat.reduceSub, Nat.reduceMul, Int.reduceToNat, Nat.reduceLeDiff, Q50]

end
end Go.EV

namespace Go.EV
open Go.Proofs

/-! ### Program order -/
/-! ### Reading -/
/-! ### The order of fences -/
/-! ### Two relations in one -/
/-! ### eco -/
end Go.EV

namespace Go.EV
open Go.Proofs

/-! ### Numbers as sets -/
/-! ### Chains of reading writes -/
section
variable {p : List Ev} {e : Exec}

end

/-! ### Releases and acquires -/
/-! ### sw -/
/-! ### Rows of sixteen -/
/-! ### hb, eco, and what is broken -/
section
variable {p : List Ev} {e : Exec} (hl : p.length ≤ 16) (hm : Mono p) (hs : Shape p e)
include hl hm hs

end

end Go.EV

namespace Go.EV
open Go.Proofs

/-- i reads x: this can be told. -/
inductive Kn (p : List Ev) (f : List Int) : Nat → Int → Prop
 | init {i : Nat} (hi : i < p.length) (hr : (evAt p i).reads = true) (h : numF f i = -1) : Kn p f i 0
 | store {i w : Nat} (hi : i < p.length) (hr : (evAt p i).reads = true) (h : numF f i = w) (hk : (evAt p w).op.kind = 1) : Kn p f i (evAt p w).op.v
 | cas {i w : Nat} (hi : i < p.length) (hr : (evAt p i).reads = true) (h : numF f i = w) (hk : (evAt p w).op.kind = 3 ∨ (evAt p w).op.kind = 4) : Kn p f i (evAt p w).op.w
 | add {i w : Nat} {x : Int} (hi : i < p.length) (hr : (evAt p i).reads = true) (h : numF f i = w) (hk : (evAt p w).op.kind = 2) (hw : Kn p f w x) : Kn p f i (IntKind.i64.wrap (x + (evAt p w).op.v))

theorem Kn.lt {p : List Ev} {f : List Int} {i : Nat} {x : Int} (h : Kn p f i x) : i < p.length ∧ (evAt p i).reads = true := by cases h <;> exact ⟨by assumption, by assumption⟩

/-- One word only. -/
theorem Kn.uniq {p : List Ev} {f : List Int} {i : Nat} {x y : Int} (h : Kn p f i x) (k : Kn p f i y) : x = y := by
 induction h generalizing y with
 | init hi hr h => cases k with
  | init => rfl
  | store _ _ h' => omega
  | cas _ _ h' => omega
  | add _ _ h' => omega
 | @store i w hi hr h hk => cases k with
  | init _ _ h' => omega
  | @store _ w' _ _ h' hk' =>
   have : w' = w := by omega
   subst this; rfl
  | @cas _ w' _ _ h' hk' =>
   have : w' = w := by omega
   subst this; omega
  | @add _ w' _ _ _ h' hk' =>
   have : w' = w := by omega
   subst this; omega
 | @cas i w hi hr h hk => cases k with
  | init _ _ h' => omega
  | @store _ w' _ _ h' hk' =>
   have : w' = w := by omega
   subst this; omega
  | @cas _ w' _ _ h' hk' =>
   have : w' = w := by omega
   subst this; rfl
  | @add _ w' _ _ _ h' hk' =>
   have : w' = w := by omega
   subst this; omega
 | @add i w x hi hr h hk hw ih => cases k with
  | init _ _ h' => omega
  | @store _ w' _ _ h' hk' =>
   have : w' = w := by omega
   subst this; omega
  | @cas _ w' _ _ h' hk' =>
   have : w' = w := by omega
   subst this; omega
  | @add _ w' y _ _ h' hk' hw' =>
   have : w' = w := by omega
   subst this; rw [ih hw']

/-- No word on a way of adds that never ends. -/
theorem Kn.ends {p : List Ev} {f : List Int} {i : Nat} {x : Int} (h : Kn p f i x) (g : Nat → Nat) (h0 : g 0 = i) (hg : ∀ j, numF f (g j) = (g (j + 1) : Nat) ∧ (evAt p (g (j + 1))).op.kind = 2) : False := by
 induction h generalizing g with
 | init hi hr h => have := (hg 0).1; rw [h0] at this; omega
 | @store i w hi hr h hk =>
  have h1 := hg 0
  rw [h0, Nat.zero_add] at h1
  have : w = g 1 := by omega
  rw [this] at hk; omega
 | @cas i w hi hr h hk =>
  have h1 := hg 0
  rw [h0, Nat.zero_add] at h1
  have : w = g 1 := by omega
  rw [this] at hk; omega
 | @add i w x hi hr h hk hw ih =>
  have h1 := hg 0
  rw [h0, Nat.zero_add] at h1
  exact ih (fun j => g (j + 1)) (by show g 1 = w; omega) (fun j => hg (j + 1))

/-- A long way goes round: it can be followed without end. -/
theorem way_round {n m : Nat} {g : Nat → Nat} {F : Nat → Int} {Q : Nat → Prop} (hm : n ≤ m) (hl : ∀ j, j ≤ m → g j < n) (hg : ∀ j, j < m → F (g j) = (g (j + 1) : Nat) ∧ Q (g (j + 1))) : ∃ G : Nat → Nat, G 0 = g 0 ∧ ∀ j, F (G j) = (G (j + 1) : Nat) ∧ Q (G (j + 1)) := by
 -- two places alike
 have hdup : ∃ a b, a < b ∧ b ≤ m ∧ g a = g b := by
  apply Classical.byContradiction
  intro hno
  have hnd : ((List.range (m + 1)).map g).Nodup := by
   rw [List.nodup_iff_pairwise_ne, List.pairwise_map, List.pairwise_iff_getElem]
   intro i j hi hj hij he
   rw [List.length_range] at hi hj
   simp only [List.getElem_range] at he
   exact hno ⟨i, j, hij, by omega, he⟩
  have := nodup_len n _ hnd (fun x hx => by
   obtain ⟨i, hi, rfl⟩ := List.mem_map.1 hx
   rw [List.mem_range] at hi
   exact hl i (by omega))
  simp at this
  omega
 obtain ⟨a, b, hab, hbm, he⟩ := hdup
 -- place j, seen before b
 let red : Nat → Nat := fun j => if j < b then j else a + (j - a) % (b - a)
 have hred : ∀ j, red j < b := by
  intro j
  show (if j < b then j else a + (j - a) % (b - a)) < b
  split
  ·assumption
  ·have := Nat.mod_lt (j - a) (show 0 < b - a by omega); omega
 refine ⟨fun j => g (red j), by show g (red 0) = g 0; congr 1; show (if 0 < b then 0 else _) = 0; rw [if_pos (by omega)], fun j => ?_⟩
 have h1 := hg (red j) (by have := hred j; omega)
 have hs : g (red j + 1) = g (red (j + 1)) := by
  have hr := hred j
  by_cases hj : j + 1 < b
  ·have e1 : red j = j := by show (if j < b then j else _) = j; rw [if_pos (by omega)]
   have e2 : red (j + 1) = j + 1 := by show (if j + 1 < b then j + 1 else _) = j + 1; rw [if_pos hj]
   rw [e1, e2]
  ·have e2 : red (j + 1) = a + (j + 1 - a) % (b - a) := by show (if j + 1 < b then j + 1 else _) = _; rw [if_neg hj]
   have e1 : red j = a + (j - a) % (b - a) := by
    show (if j < b then j else _) = _
    split
    ·rw [Nat.mod_eq_of_lt (by omega)]; omega
    ·rfl
   rw [e1, e2]
   have hm1 := Nat.mod_lt (j - a) (show 0 < b - a by omega)
   have hmod : (j + 1 - a) % (b - a) = if (j - a) % (b - a) + 1 = b - a then 0 else (j - a) % (b - a) + 1 := by
    have e3 : j + 1 - a = (j - a) + 1 := by omega
    rw [e3]
    split
    ·rename_i h
     rw [Nat.add_mod, ← h]
     rw [h]
     by_cases h1 : b - a = 1
     ·rw [h1]; omega
     ·rw [Nat.mod_eq_of_lt (show 1 < b - a by omega), h, Nat.mod_self]
    ·rename_i h
     rw [Nat.add_mod]
     by_cases h1 : b - a = 1
     ·rw [h1] at h hm1; omega
     ·rw [Nat.mod_eq_of_lt (show 1 < b - a by omega), Nat.mod_eq_of_lt (by omega)]
   rw [hmod]
   split
   ·rename_i h
    have : a + (j - a) % (b - a) + 1 = b := by omega
    rw [this, Nat.add_zero]; exact he.symm
   ·rfl
 rw [hs] at h1
 exact h1

section
variable {p : List Ev} {f : List Int}

/-- What is known so far can be told. -/
structure Wd.Knows (p : List Ev) (f : List Int) (s : Wd) : Prop where
 k : ∀ i, s.K i = true → Kn p f i (s.R i)
 t : ∀ i, s.T i = true → ((evAt p i).op.kind = 1 ∧ s.W i = (evAt p i).op.v) ∨ ((evAt p i).op.kind = 2 ∧ ∃ x, Kn p f i x ∧ s.W i = IntKind.i64.wrap (x + (evAt p i).op.v)) ∨ (((evAt p i).op.kind = 3 ∨ (evAt p i).op.kind = 4) ∧ s.W i = (evAt p i).op.w)

theorem Wd.Knows.read {s : Wd} (h : s.Knows p f) {i w : Nat} (hi : i < p.length) (hr : (evAt p i).reads = true) (hw : numF f i = w) (ht : s.T w = true) : Kn p f i (s.W w) := by
 rcases h.t w ht with ⟨h1, h2⟩ | ⟨h1, x, h2, h3⟩ | ⟨h1, h2⟩
 ·rw [h2]; exact .store hi hr hw h1
 ·rw [h3]; exact .add hi hr hw h1 h2
 ·rw [h2]; exact .cas hi hr hw h1

theorem wdRead_knows (hf : FromOk p f) {s : Wd} {i : Nat} (hi : i < p.length) (hinv : s.Inv p f) (h : s.Knows p f) : (wdRead p f s i).Knows p f := by
 have hl := hinv.len
 have hik : i < s.k.length := by rw [hl.k]; exact hi
 have hir : i < s.r.length := by rw [hl.r]; exact hi
 unfold wdRead
 split
 ·rename_i hc
  simp only [Bool.and_eq_true, decide_eq_true_eq] at hc
  have hK : ∀ j, ({ s with k := s.k.set i true } : Wd).K j = if j = i then true else s.K j := fun j => getD_set hik
  refine ⟨fun j hj => ?_, h.t⟩
  rw [hK] at hj
  by_cases hji : j = i
  ·subst hji
   show Kn p f j (s.R j)
   cases hk : s.K j with
   | true => exact h.k j hk
   | false => rw [hinv.n j hk]; exact .init hi hc.1 hc.2
  ·rw [if_neg hji] at hj; exact h.k j hj
 ·split
  ·rename_i hc hc2
   simp only [Bool.and_eq_true, decide_eq_true_eq, not_and] at hc hc2
   have hne : numF f i ≠ -1 := hc hc2.1
   obtain ⟨w, hw⟩ : ∃ w : Nat, numF f i = w := by
    rcases hf.2 i hi hc2.1 with h1 | ⟨h1, _⟩
    ·exact absurd h1 hne
    ·exact ⟨(numF f i).toNat, by unfold numF; omega⟩
   have hwf : (f[i]?.getD 0).toNat = w := by unfold numF at hw; omega
   rw [hwf] at hc2
   rw [hwf]
   have hK : ∀ j, ({ s with r := s.r.set i (s.w[w]?.getD 0), k := s.k.set i true } : Wd).K j = if j = i then true else s.K j := fun j => getD_set hik
   have hR : ∀ j, ({ s with r := s.r.set i (s.w[w]?.getD 0), k := s.k.set i true } : Wd).R j = if j = i then s.W w else s.R j := fun j => getD_set hir
   refine ⟨fun j hj => ?_, h.t⟩
   rw [hK] at hj
   rw [hR]
   by_cases hji : j = i
   ·subst hji; rw [if_pos rfl]; exact h.read hi hc2.1 hw hc2.2
   ·rw [if_neg hji] at hj ⊢; exact h.k j hj
  ·exact h

theorem wdWrite_knows {s : Wd} {i : Nat} (hi : i < p.length) (hl : s.Len p.length) (h : s.Knows p f) : (wdWrite p s i).Knows p f := by
 have hiw : i < s.w.length := by rw [hl.w]; exact hi
 have hit : i < s.t.length := by rw [hl.t]; exact hi
 have key : ∀ (x : Int) (b : Bool), (b = true → ((evAt p i).op.kind = 1 ∧ x = (evAt p i).op.v) ∨ ((evAt p i).op.kind = 2 ∧ ∃ y, Kn p f i y ∧ x = IntKind.i64.wrap (y + (evAt p i).op.v)) ∨ (((evAt p i).op.kind = 3 ∨ (evAt p i).op.kind = 4) ∧ x = (evAt p i).op.w)) →
   ({ s with w := s.w.set i x, t := s.t.set i b } : Wd).Knows p f := by
  intro x b h2
  have hT : ∀ j, ({ s with w := s.w.set i x, t := s.t.set i b } : Wd).T j = if j = i then b else s.T j := fun j => getD_set hit
  have hW : ∀ j, ({ s with w := s.w.set i x, t := s.t.set i b } : Wd).W j = if j = i then x else s.W j := fun j => getD_set hiw
  refine ⟨h.k, fun j hj => ?_⟩
  rw [hT] at hj
  rw [hW]
  by_cases hji : j = i
  ·subst hji; rw [if_pos rfl] at hj ⊢; exact h2 hj
  ·rw [if_neg hji] at hj ⊢; exact h.t j hj
 unfold wdWrite
 split
 ·rename_i hk; exact key _ _ fun _ => .inl ⟨hk, rfl⟩
 ·split
  ·rename_i hk; exact key _ _ fun hb => .inr (.inl ⟨hk, _, h.k i hb, rfl⟩)
  ·split
   ·rename_i hk; exact key _ _ fun _ => .inr (.inr ⟨hk, rfl⟩)
   ·exact h

theorem wdRow_knows (hf : FromOk p f) {s : Wd} (hinv : s.Inv p f) (h : s.Knows p f) : ∀ m, m ≤ p.length → (wdRow p f s m).Knows p f
 | 0, _ => h
 | m + 1, hm => by
  have ih := wdRow_knows hf hinv h m (by omega)
  have hi := (wdRow_inv hf hinv m (by omega)).1
  exact wdWrite_knows (by omega) (wdRead_inv hf (i := m) (by omega) hi).1.len (wdRead_knows hf (by omega) hi ih)

theorem wdIter_knows (hf : FromOk p f) : ∀ k, (wdIter p f k).Knows p f
 | 0 => by
  have hT : ∀ i, (wd0 p.length).T i = false := fun i => by simp only [Wd.T, wd0, List.getElem?_replicate]; split <;> rfl
  have hK : ∀ i, (wd0 p.length).K i = false := fun i => by simp only [Wd.K, wd0, List.getElem?_replicate]; split <;> rfl
  exact ⟨fun i h => absurd ((hK i).symm.trans h) (by decide), fun i h => absurd ((hT i).symm.trans h) (by decide)⟩
 | k + 1 => wdRow_knows hf (wdIter_inv hf k) (wdIter_knows hf k) _ (Nat.le_refl _)

/-- On a way back of unknown events, each is an add. -/
theorem unknown_adds (hf : FromOk p f) (hs : SrcOk p f) : ∀ (m i : Nat), i < p.length → (evAt p i).reads = true → (wdIter p f (m + 1)).K i = false →
  ∃ g : Nat → Nat, g 0 = i ∧ (∀ j, j ≤ m → g j < p.length) ∧ ∀ j, j < m → numF f (g j) = (g (j + 1) : Nat) ∧ (evAt p (g (j + 1))).op.kind = 2
 | 0, i, hi, _, _ => ⟨fun _ => i, rfl, fun _ _ => hi, fun j hj => by omega⟩
 | m + 1, i, hi, hr, hk => by
  obtain ⟨_, _, h3, _, _⟩ := wdRow_inv hf (wdIter_inv hf (m + 1)) p.length (Nat.le_refl _)
  obtain ⟨_, _, _, k4, _⟩ := wdRow_inv hf (wdIter_inv hf m) p.length (Nat.le_refl _)
  have hn : numF f i ≠ -1 := fun e => by
   have := h3 i hi ⟨hr, .inl e⟩
   rw [show wdRow p f (wdIter p f (m + 1)) p.length = wdIter p f (m + 1 + 1) from rfl, hk] at this; cases this
  obtain ⟨w, hw⟩ : ∃ w : Nat, numF f i = w := by
   rcases hf.2 i hi hr with h1 | ⟨h1, _⟩
   ·exact absurd h1 hn
   ·exact ⟨(numF f i).toNat, by unfold numF; omega⟩
  obtain ⟨hwl, hk1, hk4⟩ := hs i w hi hr hw
  have hT : (wdIter p f (m + 1)).T w = false := by
   cases ht : (wdIter p f (m + 1)).T w with
   | false => rfl
   | true =>
    have := h3 i hi ⟨hr, .inr ⟨w, hw, ht⟩⟩
    rw [show wdRow p f (wdIter p f (m + 1)) p.length = wdIter p f (m + 1 + 1) from rfl, hk] at this; cases this
  have hk2 : (evAt p w).op.kind = 2 := by
   apply Decidable.byContradiction; intro h2
   have := k4 w hwl (by omega)
   rw [show wdRow p f (wdIter p f m) p.length = wdIter p f (m + 1) from rfl, hT] at this; cases this
  have hKw : (wdIter p f (m + 1)).K w = false := by
   cases ht : (wdIter p f (m + 1)).K w with
   | false => rfl
   | true =>
    have := k4 w hwl (.inr (.inl ⟨hk2, ht⟩))
    rw [show wdRow p f (wdIter p f m) p.length = wdIter p f (m + 1) from rfl, hT] at this; cases this
  obtain ⟨g, g1, g2, g3⟩ := unknown_adds hf hs m w hwl (by simp [Ev.reads, hk2]) hKw
  refine ⟨fun j => if j = 0 then i else g (j - 1), rfl, fun j hj => ?_, fun j hj => ?_⟩
  ·by_cases h0 : j = 0
   ·simp [h0, hi]
   ·simp only [h0, if_false]; exact g2 _ (by omega)
  ·by_cases h0 : j = 0
   ·subst h0; simpa [g1] using ⟨hw, hk2⟩
   ·have := g3 (j - 1) (by omega)
    rw [show j - 1 + 1 = j by omega] at this
    simpa [h0] using this

/-- What the words know is what can be told. -/
theorem words_K (hf : FromOk p f) (hs : SrcOk p f) {i : Nat} (hi : i < p.length) (hr : (evAt p i).reads = true) : ((wordsP p f).K i = true ↔ ∃ x, Kn p f i x) ∧ ∀ x, Kn p f i x → (wordsP p f).R i = x := by
 have hk := wdIter_knows hf (p.length + 1)
 have hall : ∀ x, Kn p f i x → (wordsP p f).K i = true := by
  intro x hx
  cases h : (wordsP p f).K i with
  | true => rfl
  | false =>
   exfalso
   obtain ⟨g, g1, g2, g3⟩ := unknown_adds hf hs p.length i hi hr h
   obtain ⟨G, e1, e2⟩ := way_round (F := numF f) (Q := fun w => (evAt p w).op.kind = 2) (Nat.le_refl _) g2 g3
   exact hx.ends G (e1.trans g1) e2
 refine ⟨⟨fun h => ⟨_, hk.k i h⟩, fun ⟨x, hx⟩ => hall x hx⟩, fun x hx => (hk.k i (hall x hx)).uniq hx⟩

end

/-! ### Which condition is broken first -/
/-- The events that write are those that the words allow, so far as they can be told. -/
def WordK (p : List Ev) (e : Exec) : Prop := ∀ i x, Kn p e.frm i x →
 ((evAt p i).op.kind = 3 → (dnAt e.dn i = true ↔ x = (evAt p i).op.v)) ∧ ((evAt p i).op.kind = 4 → dnAt e.dn i = true → x = (evAt p i).op.v)

/-- All can be told where nothing goes round. -/
theorem kn_all {p : List Ev} {e : Exec} (hs : Shape p e) (hac : RfOk p e) {i : Nat} (hi : i < p.length) (hr : (evAt p i).reads = true) : Kn p e.frm i ((wordsP p e.frm).R i) := by
 have h := words_known hs.fromOk hs.srcOk hac hi hr
 obtain ⟨x, hx⟩ := (words_K hs.fromOk hs.srcOk hi hr).1.1 h
 rw [(words_K hs.fromOk hs.srcOk hi hr).2 x hx]; exact hx

theorem wordK_iff {p : List Ev} {e : Exec} (hs : Shape p e) (hac : RfOk p e) : WordK p e ↔ Worded p e := by
 constructor
 ·intro h i hi
  refine ⟨fun k3 => ?_, fun k4 => ?_⟩
  ·exact (h i _ (kn_all hs hac hi (by simp [Ev.reads, k3]))).1 k3
  ·exact (h i _ (kn_all hs hac hi (by simp [Ev.reads, k4]))).2 k4
 ·intro h i x hx
  obtain ⟨hi, hr⟩ := hx.lt
  have := (words_K hs.fromOk hs.srcOk hi hr).2 x hx
  rw [← this]; exact h i hi

open Classical in
/-- The number of the first condition that an execution breaks. -/
noncomputable def failsN (p : List Ev) (e : Exec) : Int :=
 if Shape p e ∧ WordK p e then (if Round p e then 2 else if Cross p e then 3 else if NextOk p e then 0 else 4) else 1

theorem fails_zero {p : List Ev} (hp : POk p) (hm : Mono p) {e : Exec} : failsN p e = 0 ↔ e ∈ execsP p := by
 rw [exec_iff hp hm]
 unfold failsN
 constructor
 ·intro h
  split at h
  ·rename_i hs
   split at h
   ·cases h
   ·rename_i hr
    split at h
    ·cases h
    ·rename_i hc
     split at h
     ·rename_i hn
      exact ⟨hs.1, (wordK_iff hs.1 (Round.rfOk hr)).1 hs.2, ⟨hr, hc, hn⟩⟩
     ·cases h
  ·cases h
 ·rintro ⟨hs, hw, hc⟩
  rw [if_pos ⟨hs, (wordK_iff hs (Round.rfOk hc.round)).2 hw⟩, if_neg hc.round, if_neg hc.cross, if_pos hc.next]

end Go.EV

namespace Go.EV
open Go.Proofs

def srcB (p : List Ev) (e : Exec) (i : Nat) : Bool :=
 if (evAt p i).reads = false then decide (frmAt e i = -2) else
  decide (frmAt e i = -1) || (decide (0 ≤ frmAt e i) && (decide (frmAt e i < p.length) && (dnAt e.dn (frmAt e i).toNat && (decide ((evAt p (frmAt e i).toNat).op.kind ≠ 5) && decide ((evAt p (frmAt e i).toNat).op.loc = (evAt p i).op.loc)))))
def okB (p : List Ev) (e : Exec) (i : Nat) : Bool :=
 if (evAt p i).op.kind = 1 ∨ (evAt p i).op.kind = 2 then dnAt e.dn i else if (evAt p i).op.kind = 0 ∨ (evAt p i).op.kind = 5 then !dnAt e.dn i else
 if (evAt p i).op.kind = 3 then !(wordsP p e.frm).K i || (dnAt e.dn i == decide ((wordsP p e.frm).R i = (evAt p i).op.v)) else
 if (evAt p i).op.kind = 4 then !(wordsP p e.frm).K i || (!dnAt e.dn i || decide ((wordsP p e.frm).R i = (evAt p i).op.v)) else true
/-- The parts of an execution fit. -/
structure Fit (p : List Ev) (e : Exec) : Prop where
 fl : e.frm.length = p.length
 dl : e.dn.length = p.length
 ol : e.ord.length = 3
 src : ∀ i, i < p.length → srcB p e i = true
 ok : ∀ i, i < p.length → okB p e i = true
 ord : ∀ k : Nat, k < 3 → (e.ord[k]?.getD []).Perm (writersI p e.dn k)
 fen : e.fen.Perm (fencesI p)

theorem fit_shape {p : List Ev} {e : Exec} (hk : ∀ i, i < p.length → 0 ≤ (evAt p i).op.kind ∧ (evAt p i).op.kind ≤ 5) (h : Fit p e) : Shape p e := by
 refine ⟨h.fl, h.dl, h.ol, fun i hi h12 => ?_, fun i hi hd => ?_, fun i hi hr => ?_, fun i hi hr => ?_, h.ord, h.fen⟩
 ·have := h.ok i hi
  unfold okB at this
  rw [if_pos h12] at this; exact this
 ·have h1 := h.ok i hi
  have h2 := hk i hi
  unfold okB at h1
  apply Classical.byContradiction
  intro hn
  rw [if_neg (by omega), if_pos (by omega), hd] at h1
  cases h1
 ·have := h.src i hi
  unfold srcB at this
  rw [if_pos hr] at this; simpa using this
 ·have := h.src i hi
  unfold srcB at this
  rw [if_neg (by rw [hr]; decide)] at this
  simp only [Bool.or_eq_true, Bool.and_eq_true, decide_eq_true_eq] at this
  rcases this with h1 | ⟨h1, h2, h3, h4, h5⟩
  ·exact .inl h1
  ·exact .inr ⟨(frmAt e i).toNat, by omega, by omega, h3, h5⟩

theorem fit_iff {p : List Ev} {e : Exec} (hk : ∀ i, i < p.length → 0 ≤ (evAt p i).op.kind ∧ (evAt p i).op.kind ≤ 5) : Fit p e ↔ Shape p e ∧ WordK p e := by
 constructor
 ·intro h
  have hs := fit_shape hk h
  refine ⟨hs, fun i x hx => ?_⟩
  obtain ⟨hi, hr⟩ := hx.lt
  have hK := words_K hs.fromOk hs.srcOk hi hr
  have h1 := hK.1.2 ⟨x, hx⟩
  have h2 := hK.2 x hx
  have h3 := h.ok i hi
  unfold okB at h3
  constructor
  ·intro k3
   rw [if_neg (by omega), if_neg (by omega), if_pos k3, h1, h2] at h3
   simp only [Bool.not_true, Bool.false_or, beq_iff_eq] at h3
   rw [h3, decide_eq_true_eq]
  ·intro k4 hd
   rw [if_neg (by omega), if_neg (by omega), if_neg (by omega), if_pos k4, h1, h2, hd] at h3
   simpa using h3
 ·rintro ⟨hs, hw⟩
  refine ⟨hs.fl, hs.dl, hs.ol, fun i hi => ?_, fun i hi => ?_, hs.ord, hs.fen⟩
  ·unfold srcB
   cases hr : (evAt p i).reads with
   | false => rw [if_pos rfl, hs.out i hi hr]; rfl
   | true =>
    rw [if_neg (by decide)]
    simp only [Bool.or_eq_true, Bool.and_eq_true, decide_eq_true_eq]
    rcases hs.src i hi hr with h1 | ⟨w, h1, h2, h3, h4⟩
    ·exact .inl h1
    ·rw [h1, Int.toNat_natCast]
     have := hs.dn0 w h2 h3
     exact .inr ⟨by omega, by omega, h3, by omega, h4⟩
  ·unfold okB
   split
   ·rename_i h; exact hs.dn1 i hi h
   ·rename_i h12
    split
    ·rename_i h05
     cases hd : dnAt e.dn i with
     | false => rfl
     | true => have := hs.dn0 i hi hd; omega
    ·rename_i h05
     have hk := hk i hi
     have hr : (evAt p i).reads = true := by simp only [Ev.reads, Bool.and_eq_true, decide_eq_true_eq]; omega
     have hK := words_K hs.fromOk hs.srcOk hi hr
     cases hkn : (wordsP p e.frm).K i with
     | false => split <;> simp
     | true =>
      obtain ⟨x, hx⟩ := hK.1.1 hkn
      have h2 := hK.2 x hx
      obtain ⟨w1, w2⟩ := hw i x hx
      rw [h2]
      split
      ·rename_i k3
       simp only [Bool.not_true, Bool.false_or, beq_iff_eq]
       cases hd : dnAt e.dn i with
       | true => exact (decide_eq_true ((w1 k3).1 hd)).symm
       | false =>
        refine (decide_eq_false fun hh => ?_).symm
        have := (w1 k3).2 hh
        rw [hd] at this; cases this
      ·split
       ·rename_i k4
        simp only [Bool.not_true, Bool.false_or]
        cases hd : dnAt e.dn i with
        | false => rfl
        | true => simp only [Bool.not_true, Bool.false_or]; exact decide_eq_true (w2 k4 hd)
       ·rfl

end Go.EV

namespace Go.EV
open Go.Proofs

section
variable {M : PHeap}

set_option maxHeartbeats 600000 in
theorem ax_source_q (p : List Ev) (s : Value) (hs : Sl M 6 encEv s p) (hpl : p.length < 1000000) (e : Exec) (v : Value) (hv : IsX M v e) (hfl : e.frm.length = p.length) (hdl : e.dn.length = p.length) (i : Nat) (hi : i < p.length) :
  ConQ Tryz.prog 133 #[s, v, vi i] M (vb (srcB p e i)) := by
 obtain ⟨pa, pc, rfl, hpr⟩ := hs
 obtain ⟨f, d, o, n, rfl, ⟨fa, fc, rfl, hrf⟩, ⟨da, dc, rfl, hrd⟩, ⟨oa, oc, ovs, rfl, hol, hro, hko⟩, ⟨na, nc, rfl, hrn⟩⟩ := hv
 obtain ⟨pb, po, rfl, hpat⟩ := Sl.at (sz := 6) (enc := encEv) (fun _ => rfl) (by decide) hpr (by omega)
 obtain ⟨fb, fo, rfl, hfat⟩ := Sl.at (sz := 1) (enc := ei) (fun _ => rfl) (by decide) hrf (by omega)
 obtain ⟨db, dof, rfl, hdat⟩ := Sl.at (sz := 1) (enc := eb) (fun _ => rfl) (by decide) hrd (by omega)
 have hpi := hpat i hi
 rw [← evAt_eq hi] at hpi
 have hfi := hfat i (by omega)
 have hfe : e.frm[i]'(by omega) = frmAt e i := by rw [frmAt, List.getElem?_eq_getElem (by omega)]; rfl
 rw [Nat.mul_one] at hfi
 rw [hfe] at hfi
 obtain ⟨x, hx⟩ : ∃ x, x = frmAt e i := ⟨_, rfl⟩
 rw [← hx] at hfi
 refine Con.enter Q40_ok (args := [.slice (some ⟨pb, po, none⟩) p.length pc, .agg #[.slice (some ⟨fb, fo, none⟩) e.frm.length fc, .slice (some ⟨db, dof, none⟩) e.dn.length dc, .slice oa e.ord.length oc, .slice na e.fen.length nc], vi i]) (by simp [Q40]) fun w0 => ?_
 simp only [Q40, argE]
 repeat' first
   | refine EV.seq ?_
   | refine EV.skip ?_
   | (refine EV.reg ?_; (conv => (arg 2; whnf)); (refine nx ?_; try with_reducible exact ⟨⟩))
   | (refine ConQ.call (ax_reads_q (evAt p i)) ?_; try (refine nx ?_; try with_reducible exact ⟨⟩))
   | (refine EV.condX rfl (fun h => ?_) (fun h => ?_) <;> try exact dead h)
   | (with_reducible intro b; try (refine nx ?_; try with_reducible exact ⟨⟩))
   | (refine And.intro (by omega) ?_)
   | ((first | refine Exists.intro _ (And.intro (rd_M (by assumption)) ?_) | refine xsA rfl ?_ | fail); try (refine nx ?_; try with_reducible exact ⟨⟩))
   | fail
 ·refine EV.ret Q40_ok ?_
  simp only [wpS, wpA, wpQL, push_cast, Int.cast_ofNat_Int, reduceIte, Nat.reduceEqDiff, reduceCtorEq, Nat.reduceAdd, Nat.reduceSub, Nat.reduceMul, Int.reduceToNat, Nat.reduceLeDiff, Q40]
  unfold srcB
  rw [if_pos h, hx]
 ·refine EV.ret Q40_ok ?_
  simp only [wpS, wpA, wpQL, push_cast, Int.cast_ofNat_Int, reduceIte, Nat.reduceEqDiff, reduceCtorEq, Nat.reduceAdd, Nat.reduceSub, Nat.reduceMul, Int.reduceToNat, Nat.reduceLeDiff, Q40]
  rename_i hr
  unfold srcB
  rw [if_neg (by rw [hr]; decide), ← hx, h]; rfl
 ·rename_i hr
  have hsB : srcB p e i = (decide (0 ≤ x) && (decide (x < p.length) && (dnAt e.dn x.toNat && (decide ((evAt p x.toNat).op.kind ≠ 5) && decide ((evAt p x.toNat).op.loc = (evAt p i).op.loc))))) := by
   unfold srcB
   rw [if_neg (by rw [hr]; decide), ← hx, decide_eq_false h, Bool.false_or]
  rw [hsB]
  refine EV.any (t := Q40_6) _ (List.Sublist.refl _) ?_
  simp only [norm_cons, norm_nil, get_cons, get_nil, reduceIte, Nat.reduceEqDiff]
  by_cases h0 : 0 ≤ x
  ·by_cases hn : x < p.length
   ·obtain ⟨w, rfl⟩ : ∃ w : Nat, x = w := ⟨x.toNat, by omega⟩
    have hw : w < p.length := by omega
    have hpw := hpat w hw
    rw [← evAt_eq hw] at hpw
    have hdw := hdat w (by omega)
    have hde : e.dn[w]'(by omega) = dnAt e.dn w := by rw [dnAt, List.getElem?_eq_getElem (by omega)]; rfl
    rw [Nat.mul_one, hde] at hdw
    have hpwk := hpw.pt 0 1 (by omega) rfl
    have hpwl := hpw.pt 1 1 (by omega) rfl
    have hpil := hpi.pt 1 1 (by omega) rfl
    rw [Int.toNat_natCast]
    have k1 : decide ((0 : Int) ≤ (w : Int)) = true := decide_eq_true h0
    have k2 : decide ((w : Int) < (p.length : Int)) = true := decide_eq_true hn
    rw [k1, k2]
    have k0 : (0 : Int) ≤ (w : Int) := h0
    cases hdv : dnAt e.dn w with
    | false =>
     rw [hdv] at hdw
     repeat' first
       | ((refine wQ_g (by first | with_reducible assumption | rfl) rfl ?_ (fun lq hlq hc => ?_) (fun lq hlq => ?_); rotate_left) <;> (try (exfalso; simp at hc; done)) <;> try simp only [push_cast, Int.cast_ofNat_Int, reduceIte, Nat.reduceEqDiff, reduceCtorEq, Nat.reduceAdd, Nat.reduceSub, Nat.reduceMul, Int.reduceToNat, Nat.reduceLeDiff, k1, k2])
       | ((first | refine wQ_op (by first | with_reducible assumption | rfl) (fun lq hlq => ?_) | refine wQ_nil (by first | with_reducible assumption | rfl) ?_ | fail); try simp only [push_cast, Int.cast_ofNat_Int, reduceIte, Nat.reduceEqDiff, reduceCtorEq, Nat.reduceAdd, Nat.reduceSub, Nat.reduceMul, Int.reduceToNat, Nat.reduceLeDiff, k1, k2])
       | refine wA_fin (by first | with_reducible assumption | rfl) ?_
       | with_reducible rfl
       | (refine And.intro (by omega) ?_)
       | ((first | refine Exists.intro _ (And.intro (rd_M (by assumption)) ?_) | refine xsA rfl ?_ | fail); try simp only [push_cast, Int.cast_ofNat_Int, reduceIte, Nat.reduceEqDiff, reduceCtorEq, Nat.reduceAdd, Nat.reduceSub, Nat.reduceMul, Int.reduceToNat, Nat.reduceLeDiff, k1, k2])
       | exact false
       | fail
     refine EV.ret Q40_ok ?_
     simp only [wpS, wpA, wpQL, push_cast, Int.cast_ofNat_Int, reduceIte, Nat.reduceEqDiff, reduceCtorEq, Nat.reduceAdd, Nat.reduceSub, Nat.reduceMul, Int.reduceToNat, Nat.reduceLeDiff, Q40]
     simp
    | true =>
     rw [hdv] at hdw
     by_cases h5 : (evAt p w).op.kind = 5
     ·have k3 : decide ((evAt p w).op.kind = 5) = true := decide_eq_true h5
      repeat' first
        | ((refine wQ_g (by first | with_reducible assumption | rfl) rfl ?_ (fun lq hlq hc => ?_) (fun lq hlq => ?_); rotate_left) <;> (try (exfalso; simp at hc; done)) <;> try simp only [push_cast, Int.cast_ofNat_Int, reduceIte, Nat.reduceEqDiff, reduceCtorEq, Nat.reduceAdd, Nat.reduceSub, Nat.reduceMul, Int.reduceToNat, Nat.reduceLeDiff, k1, k2, k3, Bool.not_true])
        | ((first | refine wQ_op (by first | with_reducible assumption | rfl) (fun lq hlq => ?_) | refine wQ_nil (by first | with_reducible assumption | rfl) ?_ | fail); try simp only [push_cast, Int.cast_ofNat_Int, reduceIte, Nat.reduceEqDiff, reduceCtorEq, Nat.reduceAdd, Nat.reduceSub, Nat.reduceMul, Int.reduceToNat, Nat.reduceLeDiff, k1, k2, k3, Bool.not_true])
        | refine wA_fin (by first | with_reducible assumption | rfl) ?_
        | with_reducible rfl
        | (refine And.intro (by omega) ?_)
        | ((first | refine Exists.intro _ (And.intro (rd_M (by assumption)) ?_) | refine xsA rfl ?_ | fail); try simp only [push_cast, Int.cast_ofNat_Int, reduceIte, Nat.reduceEqDiff, reduceCtorEq, Nat.reduceAdd, Nat.reduceSub, Nat.reduceMul, Int.reduceToNat, Nat.reduceLeDiff, k1, k2, k3, Bool.not_true])
        | exact false
        | fail
      refine EV.ret Q40_ok ?_
      simp only [wpS, wpA, wpQL, push_cast, Int.cast_ofNat_Int, reduceIte, Nat.reduceEqDiff, reduceCtorEq, Nat.reduceAdd, Nat.reduceSub, Nat.reduceMul, Int.reduceToNat, Nat.reduceLeDiff, Q40]
      simp [h5]
     ·have k3 : decide ((evAt p w).op.kind = 5) = false := decide_eq_false h5
      repeat' first
        | ((refine wQ_g (by first | with_reducible assumption | rfl) rfl ?_ (fun lq hlq hc => ?_) (fun lq hlq => ?_); rotate_left) <;> (try (exfalso; simp at hc; done)) <;> try simp only [push_cast, Int.cast_ofNat_Int, reduceIte, Nat.reduceEqDiff, reduceCtorEq, Nat.reduceAdd, Nat.reduceSub, Nat.reduceMul, Int.reduceToNat, Nat.reduceLeDiff, k1, k2, k3, Bool.not_false])
        | ((first | refine wQ_op (by first | with_reducible assumption | rfl) (fun lq hlq => ?_) | refine wQ_nil (by first | with_reducible assumption | rfl) ?_ | fail); try simp only [push_cast, Int.cast_ofNat_Int, reduceIte, Nat.reduceEqDiff, reduceCtorEq, Nat.reduceAdd, Nat.reduceSub, Nat.reduceMul, Int.reduceToNat, Nat.reduceLeDiff, k1, k2, k3, Bool.not_false])
        | refine wA_fin (by first | with_reducible assumption | rfl) ?_
        | with_reducible rfl
        | (refine And.intro (by omega) ?_)
        | ((first | refine Exists.intro _ (And.intro (rd_M (by assumption)) ?_) | refine xsA rfl ?_ | fail); try simp only [push_cast, Int.cast_ofNat_Int, reduceIte, Nat.reduceEqDiff, reduceCtorEq, Nat.reduceAdd, Nat.reduceSub, Nat.reduceMul, Int.reduceToNat, Nat.reduceLeDiff, k1, k2, k3, Bool.not_false])
        | fail
      refine EV.ret Q40_ok ?_
      simp only [wpS, wpA, wpQL, push_cast, Int.cast_ofNat_Int, reduceIte, Nat.reduceEqDiff, reduceCtorEq, Nat.reduceAdd, Nat.reduceSub, Nat.reduceMul, Int.reduceToNat, Nat.reduceLeDiff, Q40]
      simp [h5]
   ·have k1 : decide (0 ≤ x) = true := decide_eq_true h0
    have k2 : decide (x < (p.length : Int)) = false := decide_eq_false hn
    repeat' first
      | ((refine wQ_g (by first | with_reducible assumption | rfl) rfl ?_ (fun lq hlq hc => ?_) (fun lq hlq => ?_); rotate_left) <;> (try (exfalso; simp at hc; done)) <;> try simp only [push_cast, Int.cast_ofNat_Int, reduceIte, Nat.reduceEqDiff, reduceCtorEq, Nat.reduceAdd, Nat.reduceSub, Nat.reduceMul, Int.reduceToNat, Nat.reduceLeDiff, k1, k2])
      | ((first | refine wQ_op (by first | with_reducible assumption | rfl) (fun lq hlq => ?_) | refine wQ_nil (by first | with_reducible assumption | rfl) ?_ | fail); try simp only [push_cast, Int.cast_ofNat_Int, reduceIte, Nat.reduceEqDiff, reduceCtorEq, Nat.reduceAdd, Nat.reduceSub, Nat.reduceMul, Int.reduceToNat, Nat.reduceLeDiff, k1, k2])
      | refine wA_fin (by first | with_reducible assumption | rfl) ?_
      | with_reducible rfl
      | exact false
      | fail
    repeat' first
      | fail
    refine EV.ret Q40_ok ?_
    simp only [wpS, wpA, wpQL, push_cast, Int.cast_ofNat_Int, reduceIte, Nat.reduceEqDiff, reduceCtorEq, Nat.reduceAdd, Nat.reduceSub, Nat.reduceMul, Int.reduceToNat, Nat.reduceLeDiff, Q40]
    simp
  ·have k1 : decide (0 ≤ x) = false := decide_eq_false h0
   repeat' first
     | ((refine wQ_g (by first | with_reducible assumption | rfl) rfl ?_ (fun lq hlq hc => ?_) (fun lq hlq => ?_); rotate_left) <;> (try (exfalso; simp at hc; done)) <;> try simp only [push_cast, Int.cast_ofNat_Int, reduceIte, Nat.reduceEqDiff, reduceCtorEq, Nat.reduceAdd, Nat.reduceSub, Nat.reduceMul, Int.reduceToNat, Nat.reduceLeDiff, k1])
     | ((first | refine wQ_op (by first | with_reducible assumption | rfl) (fun lq hlq => ?_) | refine wQ_nil (by first | with_reducible assumption | rfl) ?_ | fail); try simp only [push_cast, Int.cast_ofNat_Int, reduceIte, Nat.reduceEqDiff, reduceCtorEq, Nat.reduceAdd, Nat.reduceSub, Nat.reduceMul, Int.reduceToNat, Nat.reduceLeDiff, k1])
     | refine wA_fin (by first | with_reducible assumption | rfl) ?_
     | exact false
     | fail
   repeat' first
     | fail
   refine EV.ret Q40_ok ?_
   simp only [wpS, wpA, wpQL, push_cast, Int.cast_ofNat_Int, reduceIte, Nat.reduceEqDiff, reduceCtorEq, Nat.reduceAdd, Nat.reduceSub, Nat.reduceMul, Int.reduceToNat, Nat.reduceLeDiff, Q40]
   simp

theorem ax_fit_S1_q (p : List Ev) {pb po pc b1 : Nat} (h1 : rd M b1 0 1 [.slice (some ⟨pb, po, none⟩) p.length pc]) (i : Nat) (hi : i < p.length) (hp : rd M pb (po + i * 6) 6 (encEv (evAt p i))) :
  ConQ Tryz.prog 135 #[vi i, pv b1 0] M (vb (evAt p i).strong) := by
 have hi' : (i : Int) < p.length := by omega
 refine Con.enter Q26_ok (args := [vi i, pv b1 0]) (by simp [Q26]) fun w0 => ?_
 simp only [Q26, argE]
 repeat' first
   | refine EV.seq ?_
   | (refine EV.reg ?_; (conv => (arg 2; whnf)); (refine nx ?_; try with_reducible exact ⟨⟩))
   | (refine ConQ.call (ax_strong_q (evAt p i)) ?_; try (refine nx ?_; try with_reducible exact ⟨⟩))
   | (refine EV.ret Q26_ok ?_; simp only [wpS, wpA, wpQL, push_cast, Int.cast_ofNat_Int, reduceIte, Nat.reduceEqDiff, reduceCtorEq, Nat.reduceAdd, Nat.reduceSub, Nat.reduceMul, Int.reduceToNat, Nat.reduceLeDiff, Q26])
   | (refine And.intro (by omega) ?_)
   | ((first | refine Exists.intro _ (And.intro (rd_M (by assumption)) ?_) | refine Exists.intro _ (Exists.intro _ (Exists.intro _ (And.intro (rd_M (by assumption)) ?_))) | fail); try (refine nx ?_; try with_reducible exact ⟨⟩))
   | fail

open Classical in
noncomputable def fitB (p : List Ev) (e : Exec) : Bool := decide (Fit p e)
open Classical in
theorem fitB_no {p : List Ev} {e : Exec} (h : ¬ Fit p e) : fitB p e = false := decide_eq_false h
open Classical in
theorem fitB_yes {p : List Ev} {e : Exec} (h : Fit p e) : fitB p e = true := decide_eq_true h

set_option maxHeartbeats 2000000 in
theorem ax_fit_q (p : List Ev) (s : Value) (hs : Sl M 6 encEv s p) (hp : POk p) (hkd : ∀ i, i < p.length → 0 ≤ (evAt p i).op.kind ∧ (evAt p i).op.kind ≤ 5) (e : Exec) (v : Value) (hv : IsX M v e) (hf8 : e.fen.length * 8 ≤ 140737488355328) (hfl : e.frm.length ≤ 140737488355328) (hdl : e.dn.length ≤ 140737488355328) (hol0 : e.ord.length ≤ 140737488355328) (ho8 : ∀ l ∈ e.ord, l.length * 8 ≤ 140737488355328) :
  ConQ Tryz.prog 101 #[s, v] M (vb (fitB p e)) := by
 have hpl := hp.len
 have hs0 := hs
 have hv0 := hv
 obtain ⟨pa, pc, rfl, hpr⟩ := hs
 obtain ⟨f, d, o, n, rfl, ⟨fa, fc, rfl, hrf⟩, ⟨da, dc, rfl, hrd⟩, ⟨oa, oc, ovs, rfl, hol, hro, hko⟩, ⟨na, nc, rfl, hrn⟩⟩ := hv
 refine Con.enter Q25_ok (args := [.slice pa p.length pc, .agg #[.slice fa e.frm.length fc, .slice da e.dn.length dc, .slice oa e.ord.length oc, .slice na e.fen.length nc]]) (by simp [Q25]) fun w0 => ?_
 simp only [Q25, argE]
 refine EV.seq ?_
 repeat' first
   | (refine EV.reg ?_; (conv => (arg 2; whnf)); (refine nx ?_; try with_reducible exact ⟨⟩))
   | (with_reducible intro b; try (refine nx ?_; try with_reducible exact ⟨⟩))
   | fail
 rename_i lb
 obtain ⟨xb, rfl⟩ : ∃ x, x = b := ⟨_, rfl⟩
 refine EV.keepS [] ?_
 generalize hR : M.add _ = N
 have hMN : M.le N := hR ▸ PHeap.le_add _ _
 have hlb : rd N lb 0 1 [.slice pa p.length pc] := hR ▸ rd_at (T := 74) (cs := [.slice pa p.length pc]) (by simp) rfl (by simp)
 have hxb : rd N xb 0 4 [.slice fa e.frm.length fc, .slice da e.dn.length dc, .slice oa e.ord.length oc, .slice na e.fen.length nc] := hR ▸ rd_at (T := 45) (cs := [.slice fa e.frm.length fc, .slice da e.dn.length dc, .slice oa e.ord.length oc, .slice na e.fen.length nc]) (by simp) rfl (by simp)
 clear hR
 have hxf := hxb.pt 0 1 (by omega) rfl
 have hxd := hxb.pt 1 1 (by omega) rfl
 have hxo := hxb.pt 2 1 (by omega) rfl
 have hxn := hxb.pt 3 1 (by omega) rfl
 simp only [Nat.zero_add] at hxf hxd hxo hxn
 have hsN := hs0.mono hMN
 have hvN := IsX.mono hMN hv0
 refine EV.seq (EV.seq ?_)
 repeat' first
   | refine EV.skip ?_
   | (refine EV.reg ?_; (conv => (arg 2; whnf)); (refine nx ?_; try with_reducible exact ⟨⟩))
   | with_reducible assumption
   | (refine condW.merge ?_ (fun hc K' hK => ?_) ?_; rotate_left)
   | (refine EV.condX rfl (fun h => ?_) (fun h => ?_) <;> try exact dead h)
   | (refine Exists.intro _ (Exists.intro _ (Exists.intro _ (And.intro (rd_M (by assumption)) ?_))); try (refine nx ?_; try with_reducible exact ⟨⟩))
   | fail
 ·have hno : fitB p e = false := by
   refine fitB_no fun hf => ?_
   have h1 := hf.fl
   have h2 := hf.dl
   have h3 := hf.ol
   simp [h1, h2, h3] at h
  repeat' first
    | refine EV.seq ?_
    | (refine EV.reg ?_; (conv => (arg 2; whnf)); (refine nx ?_; try with_reducible exact ⟨⟩))
    | fail
  refine EV.ret Q25_ok ?_
  simp only [wpS, wpA, wpQL, push_cast, Int.cast_ofNat_Int, reduceIte, Nat.reduceEqDiff, reduceCtorEq, Nat.reduceAdd, Nat.reduceSub, Nat.reduceMul, Int.reduceToNat, Nat.reduceLeDiff, Q25]
  rw [hno]
 obtain ⟨e1, e2, e3⟩ : e.frm.length = p.length ∧ e.dn.length = p.length ∧ e.ord.length = 3 := by
  omega
 refine EV.seq (EV.seq ?_)
 repeat' first
   | refine EV.block ?_
   | (refine EV.reg ?_; (conv => (arg 2; whnf)); (refine nx ?_; try with_reducible exact ⟨⟩))
   | (refine Exists.intro _ (Exists.intro _ (Exists.intro _ (And.intro (rd_M (by assumption)) ?_))); try (refine nx ?_; try with_reducible exact ⟨⟩))
   | fail
 have hsrc := fun G i hi => ax_source_q (M := N.add G) p _ (hsN.mono (PHeap.le_add _ _)) (by omega) e _ (IsX.mono (PHeap.le_add _ _) hvN) e1 e2 i hi
 refine EV.loopTo (fun i : Nat => ([(2, pv lb 0), (3, pv xb 0), (4, .bool false), (35, vi p.length), (36, vi i)], N, [])) (fun i => i ≤ p.length ∧ ∀ j, j < i → srcB p e j = true) (fun i => p.length - i) 0 rfl ⟨Nat.zero_le _, fun j h => absurd h (Nat.not_lt_zero _)⟩ ?env1 (List.nil_sublist _) ?_
 case env1 =>
  repeat' first
   | (refine List.forall_mem_cons.2 (And.intro ?_ ?_))
   | (intro _ hnil; cases hnil; done)
   | rfl
   | fail
 rintro i ⟨hi, hsi⟩ ih
 dsimp only at hi hsi ih ⊢
 refine EV.seq ?_
 repeat' first
   | (refine EV.reg ?_; (conv => (arg 2; whnf)); (refine nx ?_; try with_reducible exact ⟨⟩))
   | fail
 refine EV.seq ?_
 repeat' first
   | refine EV.skip ?_
   | (refine EV.condX rfl (fun h => ?_) (fun h => ?_) <;> try exact dead h)
   | (refine EV.exit rfl ?_)
   | fail
 ·have hi' : i < p.length := by omega
  repeat' first
    | refine EV.seq ?_
    | refine EV.skip ?_
    | refine EV.block ?_
    | refine EV.inBlock ?_
    | (refine EV.reg ?_; (conv => (arg 2; whnf)); (refine nx ?_; try with_reducible exact ⟨⟩))
    | (refine ConQ.call (hsrc _ i hi') ?_; try (refine nx ?_; try with_reducible exact ⟨⟩))
    | (refine EV.condX rfl (fun h => ?_) (fun h => ?_) <;> try exact dead h)
    | ((first | refine Exists.intro _ (And.intro (rd_M (by assumption)) ?_) | refine Exists.intro _ (Exists.intro _ (Exists.intro _ (And.intro (rd_M (by assumption)) ?_))) | fail); try (refine nx ?_; try with_reducible exact ⟨⟩))
    | fail
  ·have hno : fitB p e = false := by
    refine fitB_no fun hf => ?_
    rw [hf.src i hi'] at h; cases h
   refine EV.ret Q25_ok ?_
   simp only [wpS, wpA, wpQL, push_cast, Int.cast_ofNat_Int, reduceIte, Nat.reduceEqDiff, reduceCtorEq, Nat.reduceAdd, Nat.reduceSub, Nat.reduceMul, Int.reduceToNat, Nat.reduceLeDiff, Q25]
   rw [hno]
  ·refine EV.to (ih (i + 1) ⟨by omega, fun j hj => ?_⟩ (by omega)) ?_ (List.nil_sublist _)
   ·by_cases hji : j < i
    ·exact hsi j hji
    ·have : j = i := by omega
     subst this; exact h
   ·repeat' first
     | (refine List.forall_mem_cons.2 (And.intro ?_ ?_))
     | (intro _ hnil; cases hnil; done)
     | rfl
     | (refine env_w64 rfl (by first | rfl | (push_cast; first | rfl | omega)) (by omega) (by omega); done)
     | fail
 have hie : i = p.length := by omega
 subst hie
 clear ih
 have hfo : FromOk p e.frm := ⟨e1, fun j hj hr => by
  have := hsi j hj
  unfold srcB at this
  rw [if_neg (by rw [hr]; decide)] at this
  simp only [Bool.or_eq_true, Bool.and_eq_true, decide_eq_true_eq] at this
  unfold frmAt at this
  omega⟩
 have hwc := ax_words_c p _ hsN (by omega) e.frm (.slice fa e.frm.length fc) (.slice da e.dn.length dc) (.slice oa e.ord.length oc) (.slice na e.fen.length nc) ⟨fa, fc, rfl, hrf.mono hMN⟩ hfo
 refine EV.seq ?_
 repeat' first
   | (refine EV.reg ?_; (conv => (arg 2; whnf)); (refine nx ?_; try with_reducible exact ⟨⟩))
   | ((first | refine Exists.intro _ (And.intro (rd_M (by assumption)) ?_) | refine Exists.intro _ (Exists.intro _ (Exists.intro _ (And.intro (rd_M (by assumption)) ?_))) | fail); try (refine nx ?_; try with_reducible exact ⟨⟩))
   | fail
 refine Con.callS (G1 := []) hwc ?_
 rintro v1 M1 G1 hM1 ⟨rv, wv, kv, rfl, hrv, hwv, hkv⟩
 repeat' first
   | fail
 refine EV.seq (EV.seq ?_)
 have hlb1 := hlb.mono hM1
 have hxb1 := hxb.mono hM1
 have hxd1 := hxd.mono hM1
 have hxo1 := hxo.mono hM1
 have hxn1 := hxn.mono hM1
 repeat' first
   | refine EV.block ?_
   | (refine EV.reg ?_; (conv => (arg 2; whnf)); (refine nx ?_; try with_reducible exact ⟨⟩))
   | (refine Exists.intro _ (Exists.intro _ (Exists.intro _ (And.intro (rd_M (by assumption)) ?_))); try (refine nx ?_; try with_reducible exact ⟨⟩))
   | fail
 have hlen := (wdIter_inv hfo (p.length + 1)).len
 obtain ⟨ra, rc, rfl, hrr⟩ := hrv
 obtain ⟨ka, kc, rfl, hkr⟩ := hkv
 have hrl : (wordsP p e.frm).r.length = p.length := hlen.r
 have hkl : (wordsP p e.frm).k.length = p.length := hlen.k
 refine EV.reS (G' := []) ?_
 refine EV.loopTo (fun x : Nat × PHeap => ([(2, pv lb 0), (3, pv xb 0), (4, .bool false), (6, .slice ra (wordsP p e.frm).r.length rc), (8, .slice ka (wordsP p e.frm).k.length kc), (52, .slice pa p.length pc), (53, vi p.length), (54, vi x.1)], x.2, [])) (fun x => x.1 ≤ p.length ∧ M1.le x.2 ∧ ∀ j, j < x.1 → okB p e j = true) (fun x => p.length - x.1) (0, M1) rfl ⟨Nat.zero_le _, PHeap.le_refl _, fun j h => absurd h (Nat.not_lt_zero _)⟩ ?env2 (List.nil_sublist _) ?_
 case env2 =>
  repeat' first
   | (refine List.forall_mem_cons.2 (And.intro ?_ ?_))
   | (intro _ hnil; cases hnil; done)
   | rfl
   | fail
 rintro ⟨i, Mi⟩ ⟨hi, hMi, hoi⟩ ih
 dsimp only at hi hMi hoi ih ⊢
 refine EV.seq ?_
 repeat' first
   | (refine EV.reg ?_; (conv => (arg 2; whnf)); (refine nx ?_; try with_reducible exact ⟨⟩))
   | fail
 refine EV.seq ?_
 repeat' first
   | refine EV.skip ?_
   | (refine EV.condX rfl (fun h => ?_) (fun h => ?_) <;> try exact dead h)
   | (refine EV.exit rfl ?_)
   | fail
 ·have hi' : i < p.length := by omega
  obtain ⟨pb, po, rfl, hpat⟩ := Sl.at (sz := 6) (enc := encEv) (fun _ => rfl) (by decide) hpr (by omega)
  obtain ⟨db, dof, rfl, hdat⟩ := Sl.at (sz := 1) (enc := eb) (fun _ => rfl) (by decide) hrd (by omega)
  obtain ⟨rb, ro, rfl, hrat⟩ := Sl.at (sz := 1) (enc := ei) (fun _ => rfl) (by decide) hrr (by omega)
  obtain ⟨kb, ko, rfl, hkat⟩ := Sl.at (sz := 1) (enc := eb) (fun _ => rfl) (by decide) hkr (by omega)
  have hpi := (((hpat i hi').mono hMN).mono hM1).mono hMi
  rw [← evAt_eq hi'] at hpi
  have hdi := (((hdat i (by omega)).mono hMN).mono hM1).mono hMi
  have hri := (hrat i (by omega)).mono hMi
  have hki := (hkat i (by omega)).mono hMi
  rw [show e.dn[i]'(by omega) = dnAt e.dn i by rw [dnAt, List.getElem?_eq_getElem (by omega)]; rfl, Nat.mul_one] at hdi
  rw [show (wordsP p e.frm).r[i]'(by omega) = (wordsP p e.frm).R i by rw [Wd.R, List.getElem?_eq_getElem (by omega)]; rfl, Nat.mul_one] at hri
  rw [show (wordsP p e.frm).k[i]'(by omega) = (wordsP p e.frm).K i by rw [Wd.K, List.getElem?_eq_getElem (by omega)]; rfl, Nat.mul_one] at hki
  refine EV.seq (EV.block (EV.seq ?_))
  repeat' first
    | (refine EV.reg ?_; (conv => (arg 2; whnf)); (refine nx ?_; try with_reducible exact ⟨⟩))
    | (with_reducible intro b; try (refine nx ?_; try with_reducible exact ⟨⟩))
    | (refine And.intro (by omega) ?_)
    | (refine Exists.intro _ (And.intro (rd_M (by assumption)) ?_); try (refine nx ?_; try with_reducible exact ⟨⟩))
    | (refine xw ?_; (refine nx ?_; try with_reducible exact ⟨⟩))
    | fail
  refine EV.keepS [] ?_
  generalize hR : Mi.add _ = N2
  have hN2 : Mi.le N2 := hR ▸ PHeap.le_add _ _
  have hev : rd N2 b 0 6 (encEv (evAt p i)) := hR ▸ rd_at (T := 121) (cs := encEv (evAt p i)) (by simp) rfl (Nat.le_refl _)
  clear hR
  have hkk : rd N2 b 0 1 [vi (evAt p i).op.kind] := hev.pt 0 1 (by omega) rfl
  have hvv : rd N2 b 2 1 [vi (evAt p i).op.v] := by have := hev.pt 2 1 (by omega) rfl; rwa [Nat.zero_add] at this
  have hxb2 := (hxb1.mono hMi).mono hN2
  have hxd2 := (hxd1.mono hMi).mono hN2
  have hdi2 := hdi.mono hN2
  have hri2 := hri.mono hN2
  have hki2 := hki.mono hN2
  have hih : okB p e i = true → _ := fun ho => ih (i + 1, N2) ⟨by dsimp only; omega, PHeap.le_trans hMi hN2, fun j hj => by
   dsimp only at hj
   by_cases hji : j < i
   ·exact hoi j hji
   ·have : j = i := by omega
    subst this; exact ho⟩ (by dsimp only; omega)
  dsimp only at hih
  have hno : okB p e i = false → fitB p e = false := fun ho => fitB_no fun hf => by rw [hf.ok i hi'] at ho; cases ho
  have hkr0 := hkd i hi'
  have hkc : (evAt p i).op.kind = 0 ∨ (evAt p i).op.kind = 1 ∨ (evAt p i).op.kind = 2 ∨ (evAt p i).op.kind = 3 ∨ (evAt p i).op.kind = 4 ∨ (evAt p i).op.kind = 5 := by omega
  rcases hkc with hkc | hkc | hkc | hkc | hkc | hkc
  · -- kind 0
   have d0 : decide ((evAt p i).op.kind = 0) = true := by rw [hkc]; rfl
   have d1 : decide ((evAt p i).op.kind = 1) = false := by rw [hkc]; rfl
   have d2 : decide ((evAt p i).op.kind = 2) = false := by rw [hkc]; rfl
   have d3 : decide ((evAt p i).op.kind = 3) = false := by rw [hkc]; rfl
   have d4 : decide ((evAt p i).op.kind = 4) = false := by rw [hkc]; rfl
   have d5 : decide ((evAt p i).op.kind = 5) = false := by rw [hkc]; rfl
   repeat' first
     | refine EV.seq ?_
     | refine EV.skip ?_
     | refine EV.block ?_
     | refine EV.inBlock ?_
     | (refine EV.reg ?_; (conv => (arg 2; whnf)); simp only [wpS, wpA, wpQL, push_cast, Int.cast_ofNat_Int, reduceIte, Nat.reduceEqDiff, reduceCtorEq, Nat.reduceAdd, Nat.reduceSub, Nat.reduceMul, Int.reduceToNat, Nat.reduceLeDiff, d0, d1, d2, d3, d4, d5])
     | (refine EV.condX rfl (fun h => ?_) (fun h => ?_) <;> try exact dead h)
     | (refine And.intro (by omega) ?_)
     | ((first | refine Exists.intro _ (And.intro (rd_M (by assumption)) ?_) | refine Exists.intro _ (Exists.intro _ (Exists.intro _ (And.intro (rd_M (by assumption)) ?_))) | fail); try simp only [wpS, wpA, wpQL, push_cast, Int.cast_ofNat_Int, reduceIte, Nat.reduceEqDiff, reduceCtorEq, Nat.reduceAdd, Nat.reduceSub, Nat.reduceMul, Int.reduceToNat, Nat.reduceLeDiff, d0, d1, d2, d3, d4, d5])
     | fail
   ·refine EV.ret Q25_ok ?_
    simp only [wpS, wpA, wpQL, push_cast, Int.cast_ofNat_Int, reduceIte, Nat.reduceEqDiff, reduceCtorEq, Nat.reduceAdd, Nat.reduceSub, Nat.reduceMul, Int.reduceToNat, Nat.reduceLeDiff, Q25]
    rw [hno (by unfold okB; simp [hkc, h])]
   ·refine EV.to (hih (by unfold okB; simp [hkc, h])) ?_ (List.nil_sublist _)
    repeat' first
     | (refine List.forall_mem_cons.2 (And.intro ?_ ?_))
     | (intro _ hnil; cases hnil; done)
     | rfl
     | (refine env_w64 rfl (by first | rfl | (push_cast; first | rfl | omega)) (by omega) (by omega); done)
     | fail
  · -- kind 1
   have d0 : decide ((evAt p i).op.kind = 0) = false := by rw [hkc]; rfl
   have d1 : decide ((evAt p i).op.kind = 1) = true := by rw [hkc]; rfl
   have d2 : decide ((evAt p i).op.kind = 2) = false := by rw [hkc]; rfl
   have d3 : decide ((evAt p i).op.kind = 3) = false := by rw [hkc]; rfl
   have d4 : decide ((evAt p i).op.kind = 4) = false := by rw [hkc]; rfl
   have d5 : decide ((evAt p i).op.kind = 5) = false := by rw [hkc]; rfl
   repeat' first
     | refine EV.seq ?_
     | refine EV.skip ?_
     | refine EV.block ?_
     | refine EV.inBlock ?_
     | (refine EV.reg ?_; (conv => (arg 2; whnf)); simp only [wpS, wpA, wpQL, push_cast, Int.cast_ofNat_Int, reduceIte, Nat.reduceEqDiff, reduceCtorEq, Nat.reduceAdd, Nat.reduceSub, Nat.reduceMul, Int.reduceToNat, Nat.reduceLeDiff, d0, d1, d2, d3, d4, d5])
     | (refine EV.condX rfl (fun h => ?_) (fun h => ?_) <;> try exact dead h)
     | (refine And.intro (by omega) ?_)
     | ((first | refine Exists.intro _ (And.intro (rd_M (by assumption)) ?_) | refine Exists.intro _ (Exists.intro _ (Exists.intro _ (And.intro (rd_M (by assumption)) ?_))) | fail); try simp only [wpS, wpA, wpQL, push_cast, Int.cast_ofNat_Int, reduceIte, Nat.reduceEqDiff, reduceCtorEq, Nat.reduceAdd, Nat.reduceSub, Nat.reduceMul, Int.reduceToNat, Nat.reduceLeDiff, d0, d1, d2, d3, d4, d5])
     | fail
   ·refine EV.ret Q25_ok ?_
    simp only [wpS, wpA, wpQL, push_cast, Int.cast_ofNat_Int, reduceIte, Nat.reduceEqDiff, reduceCtorEq, Nat.reduceAdd, Nat.reduceSub, Nat.reduceMul, Int.reduceToNat, Nat.reduceLeDiff, Q25]
    rw [hno (by unfold okB; simp [hkc, h])]
   ·refine EV.to (hih (by unfold okB; simp [hkc, h])) ?_ (List.nil_sublist _)
    repeat' first
     | (refine List.forall_mem_cons.2 (And.intro ?_ ?_))
     | (intro _ hnil; cases hnil; done)
     | rfl
     | (refine env_w64 rfl (by first | rfl | (push_cast; first | rfl | omega)) (by omega) (by omega); done)
     | fail
  · -- kind 2
   have d0 : decide ((evAt p i).op.kind = 0) = false := by rw [hkc]; rfl
   have d1 : decide ((evAt p i).op.kind = 1) = false := by rw [hkc]; rfl
   have d2 : decide ((evAt p i).op.kind = 2) = true := by rw [hkc]; rfl
   have d3 : decide ((evAt p i).op.kind = 3) = false := by rw [hkc]; rfl
   have d4 : decide ((evAt p i).op.kind = 4) = false := by rw [hkc]; rfl
   have d5 : decide ((evAt p i).op.kind = 5) = false := by rw [hkc]; rfl
   repeat' first
     | refine EV.seq ?_
     | refine EV.skip ?_
     | refine EV.block ?_
     | refine EV.inBlock ?_
     | (refine EV.reg ?_; (conv => (arg 2; whnf)); simp only [wpS, wpA, wpQL, push_cast, Int.cast_ofNat_Int, reduceIte, Nat.reduceEqDiff, reduceCtorEq, Nat.reduceAdd, Nat.reduceSub, Nat.reduceMul, Int.reduceToNat, Nat.reduceLeDiff, d0, d1, d2, d3, d4, d5])
     | (refine EV.condX rfl (fun h => ?_) (fun h => ?_) <;> try exact dead h)
     | (refine And.intro (by omega) ?_)
     | ((first | refine Exists.intro _ (And.intro (rd_M (by assumption)) ?_) | refine Exists.intro _ (Exists.intro _ (Exists.intro _ (And.intro (rd_M (by assumption)) ?_))) | fail); try simp only [wpS, wpA, wpQL, push_cast, Int.cast_ofNat_Int, reduceIte, Nat.reduceEqDiff, reduceCtorEq, Nat.reduceAdd, Nat.reduceSub, Nat.reduceMul, Int.reduceToNat, Nat.reduceLeDiff, d0, d1, d2, d3, d4, d5])
     | fail
   ·refine EV.ret Q25_ok ?_
    simp only [wpS, wpA, wpQL, push_cast, Int.cast_ofNat_Int, reduceIte, Nat.reduceEqDiff, reduceCtorEq, Nat.reduceAdd, Nat.reduceSub, Nat.reduceMul, Int.reduceToNat, Nat.reduceLeDiff, Q25]
    rw [hno (by unfold okB; simp [hkc, h])]
   ·refine EV.to (hih (by unfold okB; simp [hkc, h])) ?_ (List.nil_sublist _)
    repeat' first
     | (refine List.forall_mem_cons.2 (And.intro ?_ ?_))
     | (intro _ hnil; cases hnil; done)
     | rfl
     | (refine env_w64 rfl (by first | rfl | (push_cast; first | rfl | omega)) (by omega) (by omega); done)
     | fail
  · -- kind 3
   have d0 : decide ((evAt p i).op.kind = 0) = false := by rw [hkc]; rfl
   have d1 : decide ((evAt p i).op.kind = 1) = false := by rw [hkc]; rfl
   have d2 : decide ((evAt p i).op.kind = 2) = false := by rw [hkc]; rfl
   have d3 : decide ((evAt p i).op.kind = 3) = true := by rw [hkc]; rfl
   have d4 : decide ((evAt p i).op.kind = 4) = false := by rw [hkc]; rfl
   have d5 : decide ((evAt p i).op.kind = 5) = false := by rw [hkc]; rfl
   repeat' first
     | refine EV.seq ?_
     | refine EV.block ?_
     | (refine EV.reg ?_; (conv => (arg 2; whnf)); simp only [wpS, wpA, wpQL, push_cast, Int.cast_ofNat_Int, reduceIte, Nat.reduceEqDiff, reduceCtorEq, Nat.reduceAdd, Nat.reduceSub, Nat.reduceMul, Int.reduceToNat, Nat.reduceLeDiff, d0, d1, d2, d3, d4, d5])
     | (refine EV.condX rfl (fun h => ?_) (fun h => ?_) <;> try exact dead h)
     | (refine Exists.intro _ (And.intro (rd_M (by assumption)) ?_); try simp only [wpS, wpA, wpQL, push_cast, Int.cast_ofNat_Int, reduceIte, Nat.reduceEqDiff, reduceCtorEq, Nat.reduceAdd, Nat.reduceSub, Nat.reduceMul, Int.reduceToNat, Nat.reduceLeDiff, d0, d1, d2, d3, d4, d5])
     | fail
   refine EV.any (t := Q25_22) [] (List.nil_sublist _) ?_
   simp only [norm_cons, norm_nil, get_cons, get_nil, reduceIte, Nat.reduceEqDiff]
   cases hK : (wordsP p e.frm).K i with
   | false =>
    rw [hK] at hki2
    repeat' first
      | ((refine wQ_g (by first | with_reducible assumption | rfl) rfl ?_ (fun lq hlq hc => ?_) (fun lq hlq => ?_); rotate_left) <;> (try (exfalso; simp at hc; done)) <;> try simp only [push_cast, Int.cast_ofNat_Int, reduceIte, Nat.reduceEqDiff, reduceCtorEq, Nat.reduceAdd, Nat.reduceSub, Nat.reduceMul, Int.reduceToNat, Nat.reduceLeDiff, Bool.not_false])
      | ((first | refine wQ_op (by first | with_reducible assumption | rfl) (fun lq hlq => ?_) | refine wQ_nil (by first | with_reducible assumption | rfl) ?_ | fail); try simp only [push_cast, Int.cast_ofNat_Int, reduceIte, Nat.reduceEqDiff, reduceCtorEq, Nat.reduceAdd, Nat.reduceSub, Nat.reduceMul, Int.reduceToNat, Nat.reduceLeDiff, Bool.not_false])
      | refine wA_fin (by first | with_reducible assumption | rfl) ?_
      | (refine And.intro (by omega) ?_)
      | (refine Exists.intro _ (And.intro (rd_M (by assumption)) ?_); try simp only [push_cast, Int.cast_ofNat_Int, reduceIte, Nat.reduceEqDiff, reduceCtorEq, Nat.reduceAdd, Nat.reduceSub, Nat.reduceMul, Int.reduceToNat, Nat.reduceLeDiff, Bool.not_false])
      | exact false
      | fail
    repeat' first
      | refine EV.seq ?_
      | refine EV.skip ?_
      | refine EV.inBlock ?_
      | (refine EV.reg ?_; (conv => (arg 2; whnf)); (refine nx ?_; try with_reducible exact ⟨⟩))
      | (refine EV.condX rfl (fun h => ?_) (fun h => ?_) <;> try exact dead h)
      | fail
    refine EV.to (hih (by unfold okB; simp [hkc, hK])) ?_ (List.nil_sublist _)
    repeat' first
     | (refine List.forall_mem_cons.2 (And.intro ?_ ?_))
     | (intro _ hnil; cases hnil; done)
     | rfl
     | (refine env_w64 rfl (by first | rfl | (push_cast; first | rfl | omega)) (by omega) (by omega); done)
     | fail
   | true =>
    rw [hK] at hki2
    cases hD : dnAt e.dn i with
    | false =>
     rw [hD] at hdi2
     repeat' first
       | ((refine wQ_g (by first | with_reducible assumption | rfl) rfl ?_ (fun lq hlq hc => ?_) (fun lq hlq => ?_); rotate_left) <;> (try (exfalso; simp at hc; done)) <;> try simp only [push_cast, Int.cast_ofNat_Int, reduceIte, Nat.reduceEqDiff, reduceCtorEq, Nat.reduceAdd, Nat.reduceSub, Nat.reduceMul, Int.reduceToNat, Nat.reduceLeDiff, Bool.not_false, Bool.not_true])
       | ((first | refine wQ_op (by first | with_reducible assumption | rfl) (fun lq hlq => ?_) | refine wQ_nil (by first | with_reducible assumption | rfl) ?_ | fail); try simp only [push_cast, Int.cast_ofNat_Int, reduceIte, Nat.reduceEqDiff, reduceCtorEq, Nat.reduceAdd, Nat.reduceSub, Nat.reduceMul, Int.reduceToNat, Nat.reduceLeDiff, Bool.not_false, Bool.not_true])
       | refine wA_fin (by first | with_reducible assumption | rfl) ?_
       | with_reducible rfl
       | (refine And.intro (by omega) ?_)
       | ((first | refine Exists.intro _ (And.intro (rd_M (by assumption)) ?_) | refine Exists.intro _ (Exists.intro _ (Exists.intro _ (And.intro (rd_M (by assumption)) ?_))) | fail); try simp only [push_cast, Int.cast_ofNat_Int, reduceIte, Nat.reduceEqDiff, reduceCtorEq, Nat.reduceAdd, Nat.reduceSub, Nat.reduceMul, Int.reduceToNat, Nat.reduceLeDiff, Bool.not_false, Bool.not_true])
       | fail
     repeat' first
       | refine EV.seq ?_
       | refine EV.skip ?_
       | refine EV.inBlock ?_
       | (refine EV.reg ?_; (conv => (arg 2; whnf)); (refine nx ?_; try with_reducible exact ⟨⟩))
       | (refine EV.condX rfl (fun h => ?_) (fun h => ?_) <;> try exact dead h)
       | fail
     ·refine EV.ret Q25_ok ?_
      simp only [wpS, wpA, wpQL, push_cast, Int.cast_ofNat_Int, reduceIte, Nat.reduceEqDiff, reduceCtorEq, Nat.reduceAdd, Nat.reduceSub, Nat.reduceMul, Int.reduceToNat, Nat.reduceLeDiff, Q25]
      rw [hno (by unfold okB; simp [hkc, hK, hD, h])]
     ·refine EV.to (hih (by unfold okB; simp [hkc, hK, hD, h])) ?_ (List.nil_sublist _)
      repeat' first
       | (refine List.forall_mem_cons.2 (And.intro ?_ ?_))
       | (intro _ hnil; cases hnil; done)
       | rfl
       | (refine env_w64 rfl (by first | rfl | (push_cast; first | rfl | omega)) (by omega) (by omega); done)
       | fail
    | true =>
     rw [hD] at hdi2
     repeat' first
       | ((refine wQ_g (by first | with_reducible assumption | rfl) rfl ?_ (fun lq hlq hc => ?_) (fun lq hlq => ?_); rotate_left) <;> (try (exfalso; simp at hc; done)) <;> try simp only [push_cast, Int.cast_ofNat_Int, reduceIte, Nat.reduceEqDiff, reduceCtorEq, Nat.reduceAdd, Nat.reduceSub, Nat.reduceMul, Int.reduceToNat, Nat.reduceLeDiff, Bool.not_false, Bool.not_true])
       | ((first | refine wQ_op (by first | with_reducible assumption | rfl) (fun lq hlq => ?_) | refine wQ_nil (by first | with_reducible assumption | rfl) ?_ | fail); try simp only [push_cast, Int.cast_ofNat_Int, reduceIte, Nat.reduceEqDiff, reduceCtorEq, Nat.reduceAdd, Nat.reduceSub, Nat.reduceMul, Int.reduceToNat, Nat.reduceLeDiff, Bool.not_false, Bool.not_true])
       | refine wA_fin (by first | with_reducible assumption | rfl) ?_
       | with_reducible rfl
       | (refine And.intro (by omega) ?_)
       | ((first | refine Exists.intro _ (And.intro (rd_M (by assumption)) ?_) | refine Exists.intro _ (Exists.intro _ (Exists.intro _ (And.intro (rd_M (by assumption)) ?_))) | fail); try simp only [push_cast, Int.cast_ofNat_Int, reduceIte, Nat.reduceEqDiff, reduceCtorEq, Nat.reduceAdd, Nat.reduceSub, Nat.reduceMul, Int.reduceToNat, Nat.reduceLeDiff, Bool.not_false, Bool.not_true])
       | fail
     repeat' first
       | refine EV.seq ?_
       | refine EV.skip ?_
       | refine EV.inBlock ?_
       | (refine EV.reg ?_; (conv => (arg 2; whnf)); (refine nx ?_; try with_reducible exact ⟨⟩))
       | (refine EV.condX rfl (fun h => ?_) (fun h => ?_) <;> try exact dead h)
       | fail
     ·refine EV.ret Q25_ok ?_
      simp only [wpS, wpA, wpQL, push_cast, Int.cast_ofNat_Int, reduceIte, Nat.reduceEqDiff, reduceCtorEq, Nat.reduceAdd, Nat.reduceSub, Nat.reduceMul, Int.reduceToNat, Nat.reduceLeDiff, Q25]
      rw [hno (by unfold okB; simp [hkc, hK, hD, h])]
     ·refine EV.to (hih (by unfold okB; simp [hkc, hK, hD, h])) ?_ (List.nil_sublist _)
      repeat' first
       | (refine List.forall_mem_cons.2 (And.intro ?_ ?_))
       | (intro _ hnil; cases hnil; done)
       | rfl
       | (refine env_w64 rfl (by first | rfl | (push_cast; first | rfl | omega)) (by omega) (by omega); done)
       | fail
  · -- kind 4
   have d0 : decide ((evAt p i).op.kind = 0) = false := by rw [hkc]; rfl
   have d1 : decide ((evAt p i).op.kind = 1) = false := by rw [hkc]; rfl
   have d2 : decide ((evAt p i).op.kind = 2) = false := by rw [hkc]; rfl
   have d3 : decide ((evAt p i).op.kind = 3) = false := by rw [hkc]; rfl
   have d4 : decide ((evAt p i).op.kind = 4) = true := by rw [hkc]; rfl
   have d5 : decide ((evAt p i).op.kind = 5) = false := by rw [hkc]; rfl
   repeat' first
     | refine EV.seq ?_
     | refine EV.block ?_
     | (refine EV.reg ?_; (conv => (arg 2; whnf)); simp only [wpS, wpA, wpQL, push_cast, Int.cast_ofNat_Int, reduceIte, Nat.reduceEqDiff, reduceCtorEq, Nat.reduceAdd, Nat.reduceSub, Nat.reduceMul, Int.reduceToNat, Nat.reduceLeDiff, d0, d1, d2, d3, d4, d5])
     | (refine EV.condX rfl (fun h => ?_) (fun h => ?_) <;> try exact dead h)
     | (refine Exists.intro _ (And.intro (rd_M (by assumption)) ?_); try simp only [wpS, wpA, wpQL, push_cast, Int.cast_ofNat_Int, reduceIte, Nat.reduceEqDiff, reduceCtorEq, Nat.reduceAdd, Nat.reduceSub, Nat.reduceMul, Int.reduceToNat, Nat.reduceLeDiff, d0, d1, d2, d3, d4, d5])
     | fail
   refine EV.any (t := Q25_24) [] (List.nil_sublist _) ?_
   simp only [norm_cons, norm_nil, get_cons, get_nil, reduceIte, Nat.reduceEqDiff]
   cases hK : (wordsP p e.frm).K i with
   | false =>
    rw [hK] at hki2
    repeat' first
      | ((refine wQ_g (by first | with_reducible assumption | rfl) rfl ?_ (fun lq hlq hc => ?_) (fun lq hlq => ?_); rotate_left) <;> (try (exfalso; simp at hc; done)) <;> try simp only [push_cast, Int.cast_ofNat_Int, reduceIte, Nat.reduceEqDiff, reduceCtorEq, Nat.reduceAdd, Nat.reduceSub, Nat.reduceMul, Int.reduceToNat, Nat.reduceLeDiff, Bool.not_false])
      | ((first | refine wQ_op (by first | with_reducible assumption | rfl) (fun lq hlq => ?_) | refine wQ_nil (by first | with_reducible assumption | rfl) ?_ | fail); try simp only [push_cast, Int.cast_ofNat_Int, reduceIte, Nat.reduceEqDiff, reduceCtorEq, Nat.reduceAdd, Nat.reduceSub, Nat.reduceMul, Int.reduceToNat, Nat.reduceLeDiff, Bool.not_false])
      | refine wA_fin (by first | with_reducible assumption | rfl) ?_
      | (refine And.intro (by omega) ?_)
      | (refine Exists.intro _ (And.intro (rd_M (by assumption)) ?_); try simp only [push_cast, Int.cast_ofNat_Int, reduceIte, Nat.reduceEqDiff, reduceCtorEq, Nat.reduceAdd, Nat.reduceSub, Nat.reduceMul, Int.reduceToNat, Nat.reduceLeDiff, Bool.not_false])
      | exact false
      | fail
    repeat' first
      | refine EV.seq ?_
      | refine EV.skip ?_
      | refine EV.inBlock ?_
      | (refine EV.reg ?_; (conv => (arg 2; whnf)); (refine nx ?_; try with_reducible exact ⟨⟩))
      | (refine EV.condX rfl (fun h => ?_) (fun h => ?_) <;> try exact dead h)
      | fail
    refine EV.to (hih (by unfold okB; simp [hkc, hK])) ?_ (List.nil_sublist _)
    repeat' first
     | (refine List.forall_mem_cons.2 (And.intro ?_ ?_))
     | (intro _ hnil; cases hnil; done)
     | rfl
     | (refine env_w64 rfl (by first | rfl | (push_cast; first | rfl | omega)) (by omega) (by omega); done)
     | fail
   | true =>
    rw [hK] at hki2
    cases hD : dnAt e.dn i with
    | false =>
     rw [hD] at hdi2
     repeat' first
       | ((refine wQ_g (by first | with_reducible assumption | rfl) rfl ?_ (fun lq hlq hc => ?_) (fun lq hlq => ?_); rotate_left) <;> (try (exfalso; simp at hc; done)) <;> try simp only [push_cast, Int.cast_ofNat_Int, reduceIte, Nat.reduceEqDiff, reduceCtorEq, Nat.reduceAdd, Nat.reduceSub, Nat.reduceMul, Int.reduceToNat, Nat.reduceLeDiff, Bool.not_false, Bool.not_true])
       | ((first | refine wQ_op (by first | with_reducible assumption | rfl) (fun lq hlq => ?_) | refine wQ_nil (by first | with_reducible assumption | rfl) ?_ | fail); try simp only [push_cast, Int.cast_ofNat_Int, reduceIte, Nat.reduceEqDiff, reduceCtorEq, Nat.reduceAdd, Nat.reduceSub, Nat.reduceMul, Int.reduceToNat, Nat.reduceLeDiff, Bool.not_false, Bool.not_true])
       | refine wA_fin (by first | with_reducible assumption | rfl) ?_
       | with_reducible rfl
       | (refine And.intro (by omega) ?_)
       | ((first | refine Exists.intro _ (And.intro (rd_M (by assumption)) ?_) | refine Exists.intro _ (Exists.intro _ (Exists.intro _ (And.intro (rd_M (by assumption)) ?_))) | fail); try simp only [push_cast, Int.cast_ofNat_Int, reduceIte, Nat.reduceEqDiff, reduceCtorEq, Nat.reduceAdd, Nat.reduceSub, Nat.reduceMul, Int.reduceToNat, Nat.reduceLeDiff, Bool.not_false, Bool.not_true])
       | exact false
       | fail
     repeat' first
       | refine EV.seq ?_
       | refine EV.skip ?_
       | refine EV.inBlock ?_
       | (refine EV.reg ?_; (conv => (arg 2; whnf)); (refine nx ?_; try with_reducible exact ⟨⟩))
       | (refine EV.condX rfl (fun h => ?_) (fun h => ?_) <;> try exact dead h)
       | fail
     refine EV.to (hih (by unfold okB; simp [hkc, hK, hD])) ?_ (List.nil_sublist _)
     repeat' first
      | (refine List.forall_mem_cons.2 (And.intro ?_ ?_))
      | (intro _ hnil; cases hnil; done)
      | rfl
      | (refine env_w64 rfl (by first | rfl | (push_cast; first | rfl | omega)) (by omega) (by omega); done)
      | fail
    | true =>
     rw [hD] at hdi2
     repeat' first
       | ((refine wQ_g (by first | with_reducible assumption | rfl) rfl ?_ (fun lq hlq hc => ?_) (fun lq hlq => ?_); rotate_left) <;> (try (exfalso; simp at hc; done)) <;> try simp only [push_cast, Int.cast_ofNat_Int, reduceIte, Nat.reduceEqDiff, reduceCtorEq, Nat.reduceAdd, Nat.reduceSub, Nat.reduceMul, Int.reduceToNat, Nat.reduceLeDiff, Bool.not_false, Bool.not_true])
       | ((first | refine wQ_op (by first | with_reducible assumption | rfl) (fun lq hlq => ?_) | refine wQ_nil (by first | with_reducible assumption | rfl) ?_ | fail); try simp only [push_cast, Int.cast_ofNat_Int, reduceIte, Nat.reduceEqDiff, reduceCtorEq, Nat.reduceAdd, Nat.reduceSub, Nat.reduceMul, Int.reduceToNat, Nat.reduceLeDiff, Bool.not_false, Bool.not_true])
       | refine wA_fin (by first | with_reducible assumption | rfl) ?_
       | with_reducible rfl
       | (refine And.intro (by omega) ?_)
       | ((first | refine Exists.intro _ (And.intro (rd_M (by assumption)) ?_) | refine Exists.intro _ (Exists.intro _ (Exists.intro _ (And.intro (rd_M (by assumption)) ?_))) | fail); try simp only [push_cast, Int.cast_ofNat_Int, reduceIte, Nat.reduceEqDiff, reduceCtorEq, Nat.reduceAdd, Nat.reduceSub, Nat.reduceMul, Int.reduceToNat, Nat.reduceLeDiff, Bool.not_false, Bool.not_true])
       | fail
     repeat' first
       | refine EV.seq ?_
       | refine EV.skip ?_
       | refine EV.inBlock ?_
       | (refine EV.reg ?_; (conv => (arg 2; whnf)); (refine nx ?_; try with_reducible exact ⟨⟩))
       | (refine EV.condX rfl (fun h => ?_) (fun h => ?_) <;> try exact dead h)
       | fail
     ·refine EV.ret Q25_ok ?_
      simp only [wpS, wpA, wpQL, push_cast, Int.cast_ofNat_Int, reduceIte, Nat.reduceEqDiff, reduceCtorEq, Nat.reduceAdd, Nat.reduceSub, Nat.reduceMul, Int.reduceToNat, Nat.reduceLeDiff, Q25]
      rw [hno (by unfold okB; simp [hkc, hK, hD, h])]
     ·refine EV.to (hih (by unfold okB; simp [hkc, hK, hD, h])) ?_ (List.nil_sublist _)
      repeat' first
       | (refine List.forall_mem_cons.2 (And.intro ?_ ?_))
       | (intro _ hnil; cases hnil; done)
       | rfl
       | (refine env_w64 rfl (by first | rfl | (push_cast; first | rfl | omega)) (by omega) (by omega); done)
       | fail
  · -- kind 5
   have d0 : decide ((evAt p i).op.kind = 0) = false := by rw [hkc]; rfl
   have d1 : decide ((evAt p i).op.kind = 1) = false := by rw [hkc]; rfl
   have d2 : decide ((evAt p i).op.kind = 2) = false := by rw [hkc]; rfl
   have d3 : decide ((evAt p i).op.kind = 3) = false := by rw [hkc]; rfl
   have d4 : decide ((evAt p i).op.kind = 4) = false := by rw [hkc]; rfl
   have d5 : decide ((evAt p i).op.kind = 5) = true := by rw [hkc]; rfl
   repeat' first
     | refine EV.seq ?_
     | refine EV.skip ?_
     | refine EV.block ?_
     | refine EV.inBlock ?_
     | (refine EV.reg ?_; (conv => (arg 2; whnf)); simp only [wpS, wpA, wpQL, push_cast, Int.cast_ofNat_Int, reduceIte, Nat.reduceEqDiff, reduceCtorEq, Nat.reduceAdd, Nat.reduceSub, Nat.reduceMul, Int.reduceToNat, Nat.reduceLeDiff, d0, d1, d2, d3, d4, d5])
     | (refine EV.condX rfl (fun h => ?_) (fun h => ?_) <;> try exact dead h)
     | (refine And.intro (by omega) ?_)
     | ((first | refine Exists.intro _ (And.intro (rd_M (by assumption)) ?_) | refine Exists.intro _ (Exists.intro _ (Exists.intro _ (And.intro (rd_M (by assumption)) ?_))) | fail); try simp only [wpS, wpA, wpQL, push_cast, Int.cast_ofNat_Int, reduceIte, Nat.reduceEqDiff, reduceCtorEq, Nat.reduceAdd, Nat.reduceSub, Nat.reduceMul, Int.reduceToNat, Nat.reduceLeDiff, d0, d1, d2, d3, d4, d5])
     | fail
   ·refine EV.ret Q25_ok ?_
    simp only [wpS, wpA, wpQL, push_cast, Int.cast_ofNat_Int, reduceIte, Nat.reduceEqDiff, reduceCtorEq, Nat.reduceAdd, Nat.reduceSub, Nat.reduceMul, Int.reduceToNat, Nat.reduceLeDiff, Q25]
    rw [hno (by unfold okB; simp [hkc, h])]
   ·refine EV.to (hih (by unfold okB; simp [hkc, h])) ?_ (List.nil_sublist _)
    repeat' first
     | (refine List.forall_mem_cons.2 (And.intro ?_ ?_))
     | (intro _ hnil; cases hnil; done)
     | rfl
     | (refine env_w64 rfl (by first | rfl | (push_cast; first | rfl | omega)) (by omega) (by omega); done)
     | fail
 have hie : i = p.length := by omega
 subst hie
 clear ih
 have hsM := hsN.mono (PHeap.le_trans hM1 hMi)
 have hd0 : Sl Mi 1 eb (.slice da e.dn.length dc) e.dn := ⟨da, dc, rfl, ((hrd.mono hMN).mono hM1).mono hMi⟩
 have hleM := PHeap.le_trans hMN (PHeap.le_trans hM1 hMi)
 have hlbM := hlb1.mono hMi
 have hxdM := hxd1.mono hMi
 have hxoM := hxo1.mono hMi
 have hxnM := hxn1.mono hMi
 refine EV.seq (EV.seq ?_)
 repeat' first
   | refine EV.block ?_
   | (refine EV.reg ?_; (conv => (arg 2; whnf)); (refine nx ?_; try with_reducible exact ⟨⟩))
   | (refine Exists.intro _ (Exists.intro _ (Exists.intro _ (And.intro (rd_M (by assumption)) ?_))); try (refine nx ?_; try with_reducible exact ⟨⟩))
   | fail
 refine EV.loopTo (fun x : Nat × PHeap => ([(2, pv lb 0), (3, pv xb 0), (4, .bool false), (131, .slice oa e.ord.length oc), (132, vi e.ord.length), (133, vi x.1)], x.2, [])) (fun x => x.1 ≤ 3 ∧ Mi.le x.2 ∧ ∀ j : Nat, j < x.1 → (e.ord[j]?.getD []).Perm (writersI p e.dn j)) (fun x => 3 - x.1) (0, Mi) rfl ⟨Nat.zero_le _, PHeap.le_refl _, fun j h => absurd h (Nat.not_lt_zero _)⟩ ?env3 (List.nil_sublist _) ?_
 case env3 =>
  repeat' first
   | (refine List.forall_mem_cons.2 (And.intro ?_ ?_))
   | (intro _ hnil; cases hnil; done)
   | rfl
   | fail
 rintro ⟨k, Mk⟩ ⟨hk, hMk, hok⟩ ih
 dsimp only at hk hMk hok ih ⊢
 refine EV.seq ?_
 repeat' first
   | (refine EV.reg ?_; (conv => (arg 2; whnf)); (refine nx ?_; try with_reducible exact ⟨⟩))
   | fail
 refine EV.seq ?_
 repeat' first
   | refine EV.skip ?_
   | (refine EV.condX rfl (fun h => ?_) (fun h => ?_) <;> try exact dead h)
   | (refine EV.exit rfl ?_)
   | fail
 ·have hk' : k < e.ord.length := by omega
  obtain ⟨ob, oo, rfl, hato⟩ := SlSlC.at hro hol hko (by omega)
  obtain ⟨la, lc, hr1, hlc, hr2⟩ := hato k hk'
  have hr1 := (hr1.mono hleM).mono hMk
  have hr2 := (hr2.mono hleM).mono hMk
  rw [Nat.mul_one] at hr1
  have h8 := ho8 _ (List.getElem_mem hk')
  have hrow : e.ord[k]?.getD [] = e.ord[k] := by rw [List.getElem?_eq_getElem hk']; rfl
  have hlbk := hlbM.mono hMk
  have hxdk := hxdM.mono hMk
  have hwr := ax_writers_c p _ (hsM.mono hMk) (by omega) e.dn _ (hd0.mono hMk) e2 k
  repeat' first
    | refine EV.seq ?_
    | refine EV.block ?_
    | (refine EV.reg ?_; (conv => (arg 2; whnf)); (refine nx ?_; try with_reducible exact ⟨⟩))
    | (refine And.intro (by omega) ?_)
    | (refine Exists.intro _ (Exists.intro _ (Exists.intro _ (And.intro (rd_M (by assumption)) ?_))); try (refine nx ?_; try with_reducible exact ⟨⟩))
    | fail
  refine Con.callS (G1 := []) hwr ?_
  rintro v2 M2 G2 hM2 ⟨G0, ⟨o2, rfl, ho2, rfl⟩, rfl⟩
  simp only [wpS, wpA, wpQL, push_cast, Int.cast_ofNat_Int, reduceIte, Nat.reduceEqDiff, reduceCtorEq, Nat.reduceAdd, Nat.reduceSub, Nat.reduceMul, Int.reduceToNat, Nat.reduceLeDiff]
  refine ConQ.call (ax_same_q e.ord[k] (writersI p e.dn k) _ _ ⟨la, lc, rfl, (hr2.mono hM2).mono (PHeap.le_add _ _)⟩ ⟨oad o2, ocap o2, rfl, by rw [flatMap_ei]; exact rd_osg (T := 3) ho2 (fun q hq => by simpa using hq)⟩ h8 (by have : (writersI p e.dn k).length ≤ p.length := pickI_len _ _; omega)) ?_
  simp only [wpS, wpA, wpQL, push_cast, Int.cast_ofNat_Int, reduceIte, Nat.reduceEqDiff, reduceCtorEq, Nat.reduceAdd, Nat.reduceSub, Nat.reduceMul, Int.reduceToNat, Nat.reduceLeDiff]
  repeat' first
    | refine EV.seq ?_
    | refine EV.skip ?_
    | refine EV.inBlock ?_
    | (refine EV.reg ?_; (conv => (arg 2; whnf)); (refine nx ?_; try with_reducible exact ⟨⟩))
    | (refine EV.condX rfl (fun h => ?_) (fun h => ?_) <;> try exact dead h)
    | fail
  ·have hno2 : fitB p e = false := fitB_no fun hf => by
    have h1 := hf.ord k (by omega)
    rw [hrow] at h1
    exact absurd ((srt_eq (writers_asc _ _ _)).2 h1) (by simpa using h)
   refine EV.ret Q25_ok ?_
   simp only [wpS, wpA, wpQL, push_cast, Int.cast_ofNat_Int, reduceIte, Nat.reduceEqDiff, reduceCtorEq, Nat.reduceAdd, Nat.reduceSub, Nat.reduceMul, Int.reduceToNat, Nat.reduceLeDiff, Q25]
   rw [hno2]
  ·refine EV.to (ih (k + 1, M2) ⟨by dsimp only; omega, PHeap.le_trans hMk hM2, fun j hj => ?_⟩ (by dsimp only; omega)) ?_ (List.nil_sublist _)
   ·dsimp only at hj
    by_cases hjk : j < k
    ·exact hok j hjk
    ·have : j = k := by omega
     subst this
     rw [hrow]
     exact (srt_eq (writers_asc _ _ _)).1 (by simpa using h)
   ·repeat' first
     | (refine List.forall_mem_cons.2 (And.intro ?_ ?_))
     | (intro _ hnil; cases hnil; done)
     | rfl
     | (refine env_w64 rfl (by first | rfl | (push_cast; first | rfl | omega)) (by omega) (by omega); done)
     | fail
 ·have hke : k = 3 := by omega
  subst hke
  clear ih
  have hsk := hsM.mono hMk
  have hlbk := hlbM.mono hMk
  have hxnk := hxnM.mono hMk
  have hnr : rdS Mk 1 na e.fen.length (e.fen.flatMap ei) := (hrn.mono hleM).mono hMk
  have hpk := fun G => ax_pick_c (M := Mk.add G) p _ (hsk.mono (PHeap.le_add _ _)) (by omega) 135 #[pv lb 0] (fun i => (evAt p i).strong) (fun M' hM' i hi => by
   have hle := PHeap.le_trans (PHeap.le_add Mk G) hM'
   obtain ⟨pb, po, e0, hpat⟩ := Sl.at (sz := 6) (enc := encEv) (fun _ => rfl) (by decide) hpr (by omega)
   have hpi := (((hpat i hi).mono hleM).mono hMk).mono hle
   rw [← evAt_eq hi] at hpi
   have := ax_fit_S1_q p (e0 ▸ hlbk.mono hle) i hi hpi
   simpa using this)
  refine EV.seq (EV.any (t := Q25_34) [] (List.nil_sublist _) ?_)
  simp only [norm_cons, norm_nil, get_cons, get_nil, reduceIte, Nat.reduceEqDiff]
  repeat' first
    | ((first | refine wQ_op (by first | with_reducible assumption | rfl) (fun lq hlq => ?_) | refine wQ_nil (by first | with_reducible assumption | rfl) ?_ | fail); try (refine nz ?_; try with_reducible exact ⟨⟩))
    | refine wA_q (by first | with_reducible assumption | rfl) (fun lq tq hlq htq => ?_)
    | ((with_reducible refine Con.callN (hpk _) ?_) ;  rintro v1 M1 G1 ⟨o1, rfl, ho1, rfl⟩; try (refine nz ?_; try with_reducible exact ⟨⟩))
    | (refine wA_s (by first | with_reducible assumption | rfl) (fun tq htq => ?_) (fun tq htq => ?_) <;> try (refine nz ?_; try with_reducible exact ⟨⟩))
    | (refine wA_sT (by first | with_reducible assumption | rfl) (fun tq htq => ?_) (fun tq htq => ?_) <;> try (refine nz ?_; try with_reducible exact ⟨⟩))
    | exact wA_no (by first | with_reducible assumption | rfl)
    | ((first | refine Exists.intro _ (Exists.intro _ (Exists.intro _ (And.intro (rd_M (by assumption)) ?_))) | refine And.intro (PHeap.le_refl _) (And.intro (mem_of_sub ?_) ?_); focus ((repeat' first | exact List.Sublist.refl _ | exact List.nil_sublist _ | exact List.sublist_append_left _ _ | refine List.Sublist.cons_cons _ ?_ | refine List.Sublist.append_left ?_ _ | refine List.sublist_append_of_sublist_right ?_ | refine List.Sublist.cons _ ?_); done) | fail); try (refine nz ?_; try with_reducible exact ⟨⟩))
    | fail
  refine ConQ.call (ax_same_q e.fen (pickI p.length fun i => (evAt p i).strong) _ _ ⟨na, nc, rfl, hnr.mono (PHeap.le_add _ _)⟩ ⟨oad o1, ocap o1, rfl, by rw [flatMap_ei]; exact rd_osg (T := 3) ho1 (fun q hq => by simpa using hq)⟩ hf8 (by have := pickI_len p.length (fun i => (evAt p i).strong); omega)) ?_
  repeat' first
    | ((first | refine wQ_op (by first | with_reducible assumption | rfl) (fun lq hlq => ?_) | refine wQ_nil (by first | with_reducible assumption | rfl) ?_ | fail); try (refine nz ?_; try with_reducible exact ⟨⟩))
    | refine wA_q (by first | with_reducible assumption | rfl) (fun lq tq hlq htq => ?_)
    | refine wA_fin (by first | with_reducible assumption | rfl) ?_
    | fail
  repeat' first
    | fail
  refine EV.ret Q25_ok ?_
  simp only [wpS, wpA, wpQL, push_cast, Int.cast_ofNat_Int, reduceIte, Nat.reduceEqDiff, reduceCtorEq, Nat.reduceAdd, Nat.reduceSub, Nat.reduceMul, Int.reduceToNat, Nat.reduceLeDiff, Q25]
  by_cases hsame : srtI e.fen = fencesI p
  ·rw [fitB_yes ⟨e1, e2, e3, hsi, hoi, hok, (srt_eq (fences_asc p)).1 hsame⟩]
   exact congrArg vb (decide_eq_true hsame)
  ·rw [fitB_no fun hf => hsame ((srt_eq (fences_asc p)).2 hf.fen)]
   exact congrArg vb (decide_eq_false hsame)


end
end Go.EV

namespace Go.EV
open Go.Proofs

/- lockless/axiom.Witness -/
def Q0_0 : Sts := .op (some 2) (.box 24 (.t 0)) <|
 .op (some 3) (.box 34 (.t 1)) <|
 .op (some 4) (.alloc 45 [(.slice none 0 0), (.slice none 0 0), (.slice none 0 0), (.slice none 0 0)]) <|
 .op (some 5) (.alloc 27 [(.int .i64 0)]) <|
 .nil
def Q0_1 : Sts := .op (some 10) (.loadA 1 (.t 2)) <|
 .op (some 11) (.call 33 [(.t 10)]) <|
 .op (some 9) (.mv (.t 11)) <|
 .op (some 12) (.extract 0 (.t 9)) <|
 .op (some 13) (.extract 1 (.t 9)) <|
 .op (some 6) (.alloc 74 [(.slice none 0 0)]) <|
 .op none (.store 1 (.t 6) (.t 12)) <|
 .op (some 7) (.mv (.t 13)) <|
 .nil
def Q0_2 : Sts := .op (some 14) (.mv (.t 7)) <|
 .op (some 15) (.bin .neq (.t 14) (.c (.int .i64 0))) <|
 .nil
def Q0_3 : Sts := .op (some 16) (.build [(.slice none 0 0), (.slice none 0 0), (.slice none 0 0), (.slice none 0 0)] []) <|
 .op (some 17) (.mv (.t 7)) <|
 .op none (.store 4 (.t 4) (.t 16)) <|
 .op none (.store 1 (.t 5) (.t 17)) <|
 .nil
def Q0_4 : Sts := .op (some 18) (.loadS (.t 6)) <|
 .op (some 19) (.call 34 [(.t 18)]) <|
 .nil
def Q0_5 : Sts := .op (some 8) (.alloc 45 [(.slice none 0 0), (.slice none 0 0), (.slice none 0 0), (.slice none 0 0)]) <|
 .op none (.store 4 (.t 8) (.t 20)) <|
 .nil
def Q0_6 : AT := .q (.op 0 (some 21) (.loadS (.t 6)) <|
 .op 1 (some 22) (.loadA 4 (.t 8)) <|
 .op 3 (some 24) (.loadS (.t 3)) <|
 .nil) <|
 .s 2 (some 23) (.call 35 [(.t 21), (.t 22)]) false (
 .q (.nil) <|
 .s 4 (some 25) (.call 41 [(.t 23), (.t 24)]) true (
 .q (.nil) <|
 .fin) <|
 .no) <|
 .no
def Q0_7 : Sts := .op (some 26) (.loadA 4 (.t 8)) <|
 .op none (.store 4 (.t 4) (.t 26)) <|
 .op none (.store 1 (.t 5) (.c (.int .i64 0))) <|
 .nil
def R_Baxiom_Witness_A8 : RCode := (.reg Q0_5)
def R_Baxiom_Witness_B8 : RCode := (.block 1 (.seq (.any Q0_6) (.cond (.t 25) (.seq (.reg Q0_7) .ret) .skip)))
def Q0_9 : Sts := .op (some 27) (.build [(.slice none 0 0), (.slice none 0 0), (.slice none 0 0), (.slice none 0 0)] []) <|
 .op none (.store 4 (.t 4) (.t 27)) <|
 .op none (.store 1 (.t 5) (.c (.int .i64 3))) <|
 .nil
def Q0 : RFun := ⟨28, [0, 1, 2, 3, 4, 5, 6, 7, 8, 19, 20], (.seq (.reg Q0_0) (.seq (.reg Q0_1) (.seq (.seq (.reg Q0_2) (.cond (.t 15) (.seq (.reg Q0_3) .ret) .skip)) (.seq (.seq (.reg Q0_4) (.block 0 (.rangeF (.t 19) [20] R_Baxiom_Witness_A8 R_Baxiom_Witness_B8))) (.seq (.reg Q0_9) .ret))))), [.cellA 4 4, .cell1 5]⟩
theorem Q0_ok : compF Tryz.prog [0, 1, 2, 3, 4, 5, 6, 7, 8, 19, 20] [15, 20, 31, 71, 88, 76, 86, 65, 83, 81, 114, 117, 119, 122, 68, 100, 103, 104, 105, 137, 138, 64, 72, 96, 99, 158, 159, 132, 56, 93, 94, 130, 131, 155, 62, 23, 170] 17 = some Q0 := by kernel_rfl

end Go.EV

namespace Go.EV
open Go.Proofs

/-! ### One ahead of another in a list -/
/-! ### A program seen in another one -/
/-- ι: the events of p among those of q; j: back again. -/
structure Emb (p q : List Ev) (ι j : Nat → Nat) (σ : Int → Int) : Prop where
 lt : ∀ a, a < p.length → ι a < q.length
 inv : ∀ a, a < p.length → j (ι a) = a
 back : ∀ b, b < q.length → (evAt q b).op.kind ≠ 5 → j b < p.length ∧ ι (j b) = b
 sb : ∀ a b, a < b → b < p.length → (evAt p a).th = (evAt p b).th → ι a < ι b ∧ (evAt q (ι a)).th = (evAt q (ι b)).th
 kind : ∀ a, a < p.length → (evAt q (ι a)).op.kind = (evAt p a).op.kind
 v : ∀ a, a < p.length → (evAt q (ι a)).op.v = (evAt p a).op.v
 w : ∀ a, a < p.length → (evAt q (ι a)).op.w = (evAt p a).op.w
 loc : ∀ a, a < p.length → (evAt p a).op.kind ≠ 5 → (evAt q (ι a)).op.loc = σ (evAt p a).op.loc
 rel : ∀ a, a < p.length → (evAt p a).rel = true → (evAt q (ι a)).rel = true
 acq : ∀ a, a < p.length → (evAt p a).acq = true → (evAt q (ι a)).acq = true
 strong : ∀ a, a < p.length → (evAt p a).strong = true → (evAt q (ι a)).strong = true
 σ3 : ∀ k, 0 ≤ k → k < 3 → 0 ≤ σ k ∧ σ k < 3
 σi : ∀ k k', 0 ≤ k → k < 3 → 0 ≤ k' → k' < 3 → σ k = σ k' → k = k'

theorem mem_fencesI {p : List Ev} {x : Int} : x ∈ fencesI p ↔ ∃ i : Nat, x = i ∧ i < p.length ∧ (evAt p i).strong = true := by
 rw [fencesI, mem_pickI]
 constructor
 ·rintro ⟨i, h1, h2, h3⟩; exact ⟨i, h3, h1, h2⟩
 ·rintro ⟨i, h3, h1, h2⟩; exact ⟨i, h1, h2, h3⟩

section
variable {p q : List Ev} {ι j : Nat → Nat} {σ : Int → Int} {e : Exec}

section
variable (H : Emb p q ι j σ) (hp : POk p) (hq : POk q) (hmq : Mono q) (hs : Shape q e)
include H hs

include hp in
include hp in
omit hs in
omit hs in
omit hs in
include hmq in
omit H hs in
include hp in
include hp hmq in
include hp in
include hp hq hmq in
omit H hs in
include hp in
end
end
end Go.EV

namespace Go.EV
open Go.Proofs

/-- The count of the writes of a location. -/
def LimS.wk (s : LimS) (k : Int) : Int := if k = 0 then s.w0 else if k = 1 then s.w1 else s.w2
/-! ### Outcomes -/
theorem outcome_shape {p : List Ev} {e : Exec} (hol : e.ord.length = 3) : ∃ r a b c, outcomeP p e = r ++ [a, b, c] ∧ r = outReads p (wordsP p e.frm) p.length ∧ a = lastOf (wordsP p e.frm) (e.ord[0]?.getD []) ∧ b = lastOf (wordsP p e.frm) (e.ord[1]?.getD []) ∧ c = lastOf (wordsP p e.frm) (e.ord[2]?.getD []) := by
 rcases ho : e.ord with _ | ⟨a, _ | ⟨b, _ | ⟨c, _ | ⟨d, l⟩⟩⟩⟩ <;> rw [ho] at hol <;> simp at hol
 exact ⟨_, _, _, _, by rw [outcomeP, ho]; rfl, rfl, rfl, rfl, rfl⟩

theorem outs_iff {p : List Ev} {l : List (List Int)} (h : Outs p l) {x : List Int} : x ∈ l ↔ IsOut p x := by
 rw [h.2 x, List.mem_map]; rfl
theorem Outs.nodup {p : List Ev} {l : List (List Int)} (h : Outs p l) : l.Nodup := by
 rw [List.nodup_iff_pairwise_ne]
 exact h.1.imp fun {a b} h e => by rw [e, cmpL_self] at h; omega
theorem isOut_len {p : List Ev} (hp : POk p) {x : List Int} (h : IsOut p x) : ∃ r a b c, x = r ++ [a, b, c] ∧ r.length ≤ p.length := by
 obtain ⟨e, he, rfl⟩ := h
 obtain ⟨r, a, b, c, h1, h2, _⟩ := outcome_shape (p := p) (e := e) (execsP_ok hp he).ol
 exact ⟨r, a, b, c, h1, by rw [h2]; exact outReads_len _ _ _⟩

end Go.EV

namespace Go.EV
open Go.Proofs

def x0V : Value := .agg #[.slice none 0 0, .slice none 0 0, .slice none 0 0, .slice none 0 0]

section
variable {M : PHeap}

theorem sl_Equal2_q (xs ys : List Int) (s t : Value) (hs : Sl M 1 ei s xs) (ht : Sl M 1 ei t ys) (hb : xs.length < 1000000) (hb2 : ys.length ≤ 281474976710656) : ConQ Tryz.prog 41 #[s, t] M (vb (decide (xs = ys))) := by
 by_cases hy : ys.length < 1000000
 ·exact sl_Equal_q xs ys s t hs ht hb hy
 obtain ⟨a, c, rfl, hrd⟩ := hs
 obtain ⟨a2, c2, rfl, hrd2⟩ := ht
 refine Con.enter Q83_ok (args := [.slice a xs.length c, .slice a2 ys.length c2]) (by simp [Q83]) fun w0 => ?_
 simp only [Q83, argE]
 repeat' first
   | refine EV.seq ?_
   | (refine EV.reg ?_; (conv => (arg 2; whnf)); (refine nx ?_; try with_reducible exact ⟨⟩))
   | (refine EV.condX rfl (fun h => ?_) (fun h => ?_) <;> try exact dead h)
   | fail
 refine EV.ret Q83_ok ?_
 simp only [wpS, wpA, wpQL, push_cast, Int.cast_ofNat_Int, reduceIte, Nat.reduceEqDiff, reduceCtorEq, Nat.reduceAdd, Nat.reduceSub, Nat.reduceMul, Int.reduceToNat, Nat.reduceLeDiff, Q83]
 rw [decide_eq_false (by rintro rfl; exact hy hb)]

set_option maxHeartbeats 4000000 in
theorem ax_Witness_c (ts : List (List OpV)) (s : Value) (hs : SlSl M 5 encOp s ts) (hb : Sized ts) (x : List Int) (v : Value) (hv : Sl M 1 ei v x) (hx' : x.length ≤ 281474976710656) :
  Con Tryz.prog 17 #[.agg #[s], v] M [] fun u M' _ => (checkP ts ≠ 0 ∧ u = .tuple #[x0V, vi (checkP ts)]) ∨
   (checkP ts = 0 ∧ ((∃ e ve, e ∈ execsP (evsOf ts) ∧ outcomeP (evsOf ts) e = x ∧ u = .tuple #[ve, vi 0] ∧ IsX M' ve e) ∨ (¬ IsOut (evsOf ts) x ∧ u = .tuple #[x0V, vi 3]))) := by
 have hs0 := hs
 have hv0 := hv
 obtain ⟨a, c, vs, rfl, hl, hrd, hk⟩ := hs
 obtain ⟨xa, xc, rfl, hxr⟩ := hv
 refine Con.enter Q0_ok (args := [.agg #[.slice a ts.length c], .slice xa x.length xc]) (by simp [Q0]) fun w0 => ?_
 simp only [Q0, argE]
 repeat' first
   | refine EV.seq ?_
   | (refine EV.reg ?_; (conv => (arg 2; whnf)); (refine nx ?_; try with_reducible exact ⟨⟩))
   | ((first | with_reducible intro b | refine xrA rfl ?_ | fail); try (refine nx ?_; try with_reducible exact ⟨⟩))
   | fail
 refine Con.callS (G1 := []) (ax_of_c ts _ hs0 hb) ?_
 rintro v M1 G1 hM1 ⟨rfl, (⟨hne, rfl⟩ | ⟨hck, s', rfl, hs1⟩)⟩
 ·simp only [wpS, wpA, wpQL, push_cast, Int.cast_ofNat_Int, reduceIte, Nat.reduceEqDiff, reduceCtorEq, Nat.reduceAdd, Nat.reduceSub, Nat.reduceMul, Int.reduceToNat, Nat.reduceLeDiff]
  repeat' first
    | refine EV.seq ?_
    | (refine EV.reg ?_; (conv => (arg 2; whnf)); simp only [wpS, wpA, wpQL, push_cast, Int.cast_ofNat_Int, reduceIte, Nat.reduceEqDiff, reduceCtorEq, Nat.reduceAdd, Nat.reduceSub, Nat.reduceMul, Int.reduceToNat, Nat.reduceLeDiff, hne])
    | (refine EV.condX rfl (fun h => ?_) (fun h => ?_) <;> try exact dead h)
    | (with_reducible intro b; try simp only [wpS, wpA, wpQL, push_cast, Int.cast_ofNat_Int, reduceIte, Nat.reduceEqDiff, reduceCtorEq, Nat.reduceAdd, Nat.reduceSub, Nat.reduceMul, Int.reduceToNat, Nat.reduceLeDiff, hne])
    | (refine xw ?_; simp only [wpS, wpA, wpQL, push_cast, Int.cast_ofNat_Int, reduceIte, Nat.reduceEqDiff, reduceCtorEq, Nat.reduceAdd, Nat.reduceSub, Nat.reduceMul, Int.reduceToNat, Nat.reduceLeDiff, hne])
    | fail
  refine EV.ret Q0_ok ?_
  simp only [wpS, wpA, wpQL, push_cast, Int.cast_ofNat_Int, reduceIte, Nat.reduceEqDiff, reduceCtorEq, Nat.reduceAdd, Nat.reduceSub, Nat.reduceMul, Int.reduceToNat, Nat.reduceLeDiff, Q0]
  refine ⟨_, rd_at (T := 45) (cs := [.slice none 0 0, .slice none 0 0, .slice none 0 0, .slice none 0 0]) (by simp) rfl (by simp), _, rd_at (T := 27) (cs := [vi (checkP ts)]) (by simp) rfl (by simp), ?_⟩
  exact .inl rfl
 ·have hp := evs_pok hck
  have hs2 := hs1
  obtain ⟨pa, pc, rfl, hpr⟩ := hs2
  simp only [wpS, wpA, wpQL, push_cast, Int.cast_ofNat_Int, reduceIte, Nat.reduceEqDiff, reduceCtorEq, Nat.reduceAdd, Nat.reduceSub, Nat.reduceMul, Int.reduceToNat, Nat.reduceLeDiff]
  repeat' first
    | refine EV.seq ?_
    | refine EV.skip ?_
    | (refine EV.reg ?_; (conv => (arg 2; whnf)); (refine nx ?_; try with_reducible exact ⟨⟩))
    | (refine EV.condX rfl (fun h => ?_) (fun h => ?_) <;> try exact dead h)
    | ((first | with_reducible intro b | refine xsA rfl ?_ | fail); try (refine nx ?_; try with_reducible exact ⟨⟩))
    | (refine xw ?_; (refine nx ?_; try with_reducible exact ⟨⟩))
    | fail
  refine Con.callS (G1 := []) (ax_execs_c _ hp hs1) ?_
  rintro v M2 G2 hM2 ⟨g2, caps2, rfl, hit2⟩
  repeat' first
    | refine EV.block ?_
    | fail
  rename_i lb xb rb eb
  obtain ⟨pb, rfl⟩ : ∃ x, x = b := ⟨_, rfl⟩
  refine EV.keepS [(rb, Cl 45 [.slice none 0 0, .slice none 0 0, .slice none 0 0, .slice none 0 0]), (eb, Cl 27 [vi 0])] ?_
  generalize hR : M2.add _ = N
  have hMN : M2.le N := hR ▸ PHeap.le_add _ _
  have hpb : rd N pb 0 1 [.slice pa (evsOf ts).length pc] := hR ▸ rd_at (T := 74) (cs := [.slice pa (evsOf ts).length pc]) (by simp) rfl (by simp)
  have hxb : rd N xb 0 1 [.slice xa x.length xc] := hR ▸ rd_at (T := 34) (cs := [.slice xa x.length xc]) (by simp) rfl (by simp)
  clear hR
  have hle2 := PHeap.le_trans hM1 (PHeap.le_trans hM2 hMN)
  have hs1N := hs1.mono (PHeap.le_trans hM2 hMN)
  have hitN := hit2.mono hMN
  have hvN := hv0.mono hle2
  refine EV.toS (ρ' := [(3, pv xb 0), (4, pv rb 0), (5, pv eb 0), (6, pv pb 0), (19, .func (.func g2) #[] caps2)]) (G' := [(rb, Cl 45 [.slice none 0 0, .slice none 0 0, .slice none 0 0, .slice none 0 0]), (eb, Cl 27 [vi 0])]) ?_ ?env1
  case env1 =>
   repeat' first
    | (refine List.forall_mem_cons.2 (And.intro ?_ ?_))
    | (intro _ hnil; cases hnil; done)
    | rfl
    | fail
  refine EV.overM rfl rfl rfl hitN (fun d es M G' => G'.Perm ((d, Obj.deferred (some [])) :: [(rb, Cl 45 [.slice none 0 0, .slice none 0 0, .slice none 0 0, .slice none 0 0]), (eb, Cl 27 [vi 0])]) ∧ ∀ e ∈ es, outcomeP (evsOf ts) e ≠ x)
   (fun d c M G' => c = .ret ∧ ∃ e f1 f2 f3 f4, e ∈ execsP (evsOf ts) ∧ outcomeP (evsOf ts) e = x ∧ IsX M (.agg #[f1, f2, f3, f4]) e ∧ G'.Perm ((d, Obj.deferred (some [])) :: [(rb, Cl 45 [f1, f2, f3, f4]), (eb, Cl 27 [vi 0])])) ?_ ?_ ?_ ?_ ?_ ?_
  ·rintro d es M4 M5 G4 hle h
   exact h
  ·rintro d c M4 M5 G4 hle ⟨h0, e, f1, f2, f3, f4, h1, h2, h3, h4⟩
   exact ⟨h0, e, f1, f2, f3, f4, h1, h2, IsX.mono hle h3, h4⟩
  ·intro d
   exact ⟨List.Perm.refl _, fun e h => nomatch h⟩
  ·intro l d r hr1 hr2 es e v M4 G4 w1 F he hM4 ⟨hp4, hes⟩ hel
   refine EV.permG ?_ (List.Perm.cons _ hp4)
   have hx := execsP_ok hp he
   have hel0 : IsX M4 v e := hel
   obtain ⟨xf, xd, xo, xn, rfl, ⟨fa, fc, rfl, _⟩, ⟨da, dc, rfl, _⟩, ⟨oa, oc, ovs, rfl, _, _, _⟩, ⟨na, nc, rfl, _⟩⟩ := hel
   repeat' first
     | (refine EV.reg ?_; (conv => (arg 2; whnf)); (refine nx ?_; try with_reducible exact ⟨⟩))
     | (with_reducible intro b; try (refine nx ?_; try with_reducible exact ⟨⟩))
     | (refine xw ?_; (refine nx ?_; try with_reducible exact ⟨⟩))
     | fail
   refine EV.frz [(b, Cl 45 [.slice fa e.frm.length fc, .slice da e.dn.length dc, .slice oa e.ord.length oc, .slice na e.fen.length nc])] ?_
   generalize hR : M4.add _ = N4
   have hMN4 : M4.le N4 := hR ▸ PHeap.le_add _ _
   have hxb8 : rd N4 b 0 4 [.slice fa e.frm.length fc, .slice da e.dn.length dc, .slice oa e.ord.length oc, .slice na e.fen.length nc] := hR ▸ rd_own' 0 rfl rfl (by simp)
   clear hR
   refine EV.rbegin hr1 ?_
   refine EV.block (EV.seq ?_)
   have hle4 := PHeap.le_trans hM4 hMN4
   have hpb4 := hpb.mono hle4
   have hxb4 := hxb.mono hle4
   have hs4 := hs1N.mono hle4
   have hv4 := hvN.mono hle4
   have hout := fun G => ax_outcome_c (M := N4.add G) (evsOf ts) _ (hs4.mono (PHeap.le_add _ _)) hp e _ (hel0.mono (PHeap.le_trans hMN4 (PHeap.le_add _ _))) hx
   refine EV.any (t := Q0_6) [] (List.nil_sublist _) ?_
   simp only [norm_cons, norm_nil, get_cons, get_nil, reduceIte, Nat.reduceEqDiff]
   repeat' first
     | ((first | refine wQ_op (by first | with_reducible assumption | rfl) (fun lq hlq => ?_) | refine wQ_nil (by first | with_reducible assumption | rfl) ?_ | fail); try (refine nz ?_; try with_reducible exact ⟨⟩))
     | refine wA_q (by first | with_reducible assumption | rfl) (fun lq tq hlq htq => ?_)
     | ((with_reducible refine Con.callN (hout _) ?_) ;  rintro v1 M1 G1 ⟨o1, rfl, ho1, rfl⟩; try (refine nz ?_; try with_reducible exact ⟨⟩))
     | (refine wA_s (by first | with_reducible assumption | rfl) (fun tq htq => ?_) (fun tq htq => ?_) <;> try (refine nz ?_; try with_reducible exact ⟨⟩))
     | (refine wA_sT (by first | with_reducible assumption | rfl) (fun tq htq => ?_) (fun tq htq => ?_) <;> try (refine nz ?_; try with_reducible exact ⟨⟩))
     | exact wA_no (by first | with_reducible assumption | rfl)
     | ((first | refine Exists.intro _ (And.intro (rd_M (by assumption)) ?_) | refine Exists.intro _ (Exists.intro _ (Exists.intro _ (And.intro (rd_M (by assumption)) ?_))) | refine And.intro (PHeap.le_refl _) (And.intro (mem_of_sub ?_) ?_); focus ((repeat' first | exact List.Sublist.refl _ | exact List.nil_sublist _ | exact List.sublist_append_left _ _ | refine List.Sublist.cons_cons _ ?_ | refine List.Sublist.append_left ?_ _ | refine List.sublist_append_of_sublist_right ?_ | refine List.Sublist.cons _ ?_); done) | fail); try (refine nz ?_; try with_reducible exact ⟨⟩))
     | fail
   have hol : (outcomeP (evsOf ts) e).length < 1000000 := by
    have h1 := outReads_len (evsOf ts) (wordsP (evsOf ts) e.frm) (evsOf ts).length
    have h2 := hp.len
    have h3 := hx.ol
    unfold outcomeP
    rw [List.length_append, List.length_map]; omega
   refine ConQ.call (sl_Equal2_q (outcomeP (evsOf ts) e) x _ _ (Sl_osvI (T := 3) ho1 (fun q hq => by simp [hq])) (hv4.mono (PHeap.le_add _ _)) hol hx') ?_
   repeat' first
     | (refine wQ_nil (by first | with_reducible assumption | rfl) ?_; try (refine nz ?_; try with_reducible exact ⟨⟩))
     | refine wA_q (by first | with_reducible assumption | rfl) (fun lq tq hlq htq => ?_)
     | refine wA_fin (by first | with_reducible assumption | rfl) ?_
     | fail
   refine EV.reS (G' := (l, Obj.loop { r with state := .busy }) :: (d, Obj.deferred (some [])) :: [(rb, Cl 45 [.slice none 0 0, .slice none 0 0, .slice none 0 0, .slice none 0 0]), (eb, Cl 27 [vi 0])]) ?_
   repeat' first
     | refine EV.seq ?_
     | refine EV.skip ?_
     | refine EV.inBlock ?_
     | (refine EV.reg ?_; (conv => (arg 2; whnf)); (refine nx ?_; try with_reducible exact ⟨⟩))
     | (refine EV.condX rfl (fun h => ?_) (fun h => ?_) <;> try exact dead h)
     | (refine Exists.intro _ (And.intro (rd_M (by assumption)) ?_); try (refine nx ?_; try with_reducible exact ⟨⟩))
     | (refine xw ?_; (refine nx ?_; try with_reducible exact ⟨⟩))
     | fail
   ·exact EV.rret (List.Perm.refl _) ⟨rfl, e, he, by simpa using h, _, _, _, _, IsX.mono hMN4 hel0, List.Perm.refl _⟩
   ·refine EV.rend hr1 hr2 (List.Perm.refl _) ⟨List.Perm.refl _, fun e1 h1 => ?_⟩
    rcases List.mem_append.1 h1 with h1 | h1
    ·exact hes e1 h1
    ·simp only [List.mem_singleton] at h1
     subst h1; simpa using h
  ·rintro d M4 G4 hM4 ⟨hp4, hes⟩
   refine EV.permG ?_ hp4
   repeat' first
     | refine EV.seq ?_
     | refine EV.inBlock ?_
     | (refine EV.reg ?_; (conv => (arg 2; whnf)); (refine nx ?_; try with_reducible exact ⟨⟩))
     | (refine xw ?_; (refine nx ?_; try with_reducible exact ⟨⟩))
     | fail
   refine EV.retM Q0_ok (ms := [d]) (G1 := [(rb, Cl 45 [.slice none 0 0, .slice none 0 0, .slice none 0 0, .slice none 0 0]), (eb, Cl 27 [vi 3])]) (List.Perm.refl _) ?_
   simp only [wpS, wpA, wpQL, push_cast, Int.cast_ofNat_Int, reduceIte, Nat.reduceEqDiff, reduceCtorEq, Nat.reduceAdd, Nat.reduceSub, Nat.reduceMul, Int.reduceToNat, Nat.reduceLeDiff, Q0]
   refine ⟨_, rd_at (T := 45) (cs := [.slice none 0 0, .slice none 0 0, .slice none 0 0, .slice none 0 0]) (by simp) rfl (by simp), _, rd_at (T := 27) (cs := [vi 3]) (by simp) rfl (by simp), ?_⟩
   exact .inr ⟨hck, .inr ⟨fun ⟨e, h1, h2⟩ => hes e h1 h2, rfl⟩⟩
  ·rintro d c M4 G4 hM4 ⟨rfl, e, f1, f2, f3, f4, he, hx, hX, hp4⟩
   refine EV.permG ?_ hp4
   refine EV.retM Q0_ok (ms := [d]) (G1 := [(rb, Cl 45 [f1, f2, f3, f4]), (eb, Cl 27 [vi 0])]) (List.Perm.refl _) ?_
   simp only [wpS, wpA, wpQL, push_cast, Int.cast_ofNat_Int, reduceIte, Nat.reduceEqDiff, reduceCtorEq, Nat.reduceAdd, Nat.reduceSub, Nat.reduceMul, Int.reduceToNat, Nat.reduceLeDiff, Q0]
   refine ⟨_, rd_at (T := 45) (cs := [f1, f2, f3, f4]) (by simp) rfl (by simp), _, rd_at (T := 27) (cs := [vi 0]) (by simp) rfl (by simp), ?_⟩
   exact .inr ⟨hck, .inl ⟨e, he, hx, _, rfl, hX⟩⟩

end
end Go.EV

namespace Go.EV
open Go.Proofs

/-- The sizes of an execution are in reach. -/
structure XSz (e : Exec) : Prop where
 fen : e.fen.length * 8 ≤ 140737488355328
 frm : e.frm.length ≤ 140737488355328
 dn : e.dn.length ≤ 140737488355328
 ord : e.ord.length ≤ 140737488355328
 row : ∀ l ∈ e.ord, l.length * 8 ≤ 140737488355328

theorem exec_sz {p : List Ev} (hp : POk p) {e : Exec} (hx : XOk p e) : XSz e := by
 have hl := hp.len
 have h1 := hx.fin.2
 refine ⟨?_, ?_, ?_, ?_, fun l hl' => ?_⟩
 ·omega
 ·have := hx.fl; omega
 ·have := hx.dl; omega
 ·have := hx.ol; omega
 ·have := (hx.oin l hl').2; omega

section
variable {M : PHeap}

theorem ax_fails_q (p : List Ev) (s : Value) (hs : Sl M 6 encEv s p) (hp : POk p) (hm : Mono p) (hkd : ∀ i, i < p.length → 0 ≤ (evAt p i).op.kind ∧ (evAt p i).op.kind ≤ 5) (e : Exec) (v : Value) (hv : IsX M v e) (hz : XSz e) :
  ConQ Tryz.prog 66 #[s, v] M (vi (failsN p e)) := by
 have hs0 := hs
 have hv0 := hv
 obtain ⟨a, c, rfl, hrd⟩ := hs
 obtain ⟨f, d, o, n, rfl, ⟨fa, fc, rfl, _⟩, ⟨da, dc, rfl, _⟩, ⟨oa, oc, ovs, rfl, _, _, _⟩, ⟨na, nc, rfl, _⟩⟩ := hv
 refine Con.enter Q24_ok (args := [.slice a p.length c, .agg #[.slice fa e.frm.length fc, .slice da e.dn.length dc, .slice oa e.ord.length oc, .slice na e.fen.length nc]]) (by simp [Q24]) fun w0 => ?_
 simp only [Q24, argE]
 have hfit := fun G => ax_fit_q (M := M.add G) p _ (hs0.mono (PHeap.le_add _ _)) hp hkd e _ (IsX.mono (PHeap.le_add _ _) hv0) hz.fen hz.frm hz.dn hz.ord hz.row
 repeat' first
   | refine EV.seq ?_
   | refine EV.skip ?_
   | (refine EV.reg ?_; (conv => (arg 2; whnf)); (refine nx ?_; try with_reducible exact ⟨⟩))
   | (refine ConQ.call (hfit _) ?_; try (refine nx ?_; try with_reducible exact ⟨⟩))
   | (refine EV.condX rfl (fun h => ?_) (fun h => ?_) <;> try exact dead h)
   | ((first | with_reducible intro b | refine xrA rfl ?_ | fail); try (refine nx ?_; try with_reducible exact ⟨⟩))
   | fail
 ·have hno : failsN p e = 1 := by
   unfold failsN
   refine if_neg fun hw => ?_
   rw [fitB_yes ((fit_iff hkd).2 hw)] at h
   cases h
  refine EV.ret Q24_ok ?_
  simp only [wpS, wpA, wpQL, push_cast, Int.cast_ofNat_Int, reduceIte, Nat.reduceEqDiff, reduceCtorEq, Nat.reduceAdd, Nat.reduceSub, Nat.reduceMul, Int.reduceToNat, Nat.reduceLeDiff, Q24]
  rw [hno]
 ·have hw : Shape p e ∧ WordK p e := by
   refine (fit_iff hkd).1 (Classical.byContradiction fun hn => ?_)
   rw [fitB_no hn] at h
   cases h
  have hx : XOk p e := hw.1.xok (.inr trivial)
  have heq : failsN p e = brokenP p e := by
   rw [brokenP_eq hp hm hx]; unfold failsN; rw [if_pos hw]
  have hbr := fun G => ax_broken_q (M := M.add G) p _ (hs0.mono (PHeap.le_add _ _)) hp e _ (IsX.mono (PHeap.le_add _ _) hv0) hx
  repeat' first
    | (refine ConQ.call (hbr _) ?_; try (refine nx ?_; try with_reducible exact ⟨⟩))
    | fail
  refine EV.ret Q24_ok ?_
  simp only [wpS, wpA, wpQL, push_cast, Int.cast_ofNat_Int, reduceIte, Nat.reduceEqDiff, reduceCtorEq, Nat.reduceAdd, Nat.reduceSub, Nat.reduceMul, Int.reduceToNat, Nat.reduceLeDiff, Q24]
  rw [heq]

end
end Go.EV

namespace Go.EV
open Go.Proofs

end Go.EV

namespace Go.EV
open Go.Proofs

theorem evs_len14 {ts : List (List OpV)} (h : checkP ts = 0) : (evsOf ts).length ≤ 14 := by
 obtain ⟨hl, hn, hall⟩ := checkP_zero h
 have hfl : (ts.map expT).flatten = expT ts.flatten := by simp [expT, List.flatMap_def, List.map_flatten, List.flatten_flatten, List.map_map]; rfl
 have h1 := (exp_size ts.flatten (List.all_eq_true.1 hall)).1
 simp only [limitsP, Bool.and_eq_true, decide_eq_true_eq] at hl
 have : (evsOf ts).length = (expT ts.flatten).length := by rw [evsOf, evsGo_len, hfl]
 omega

end Go.EV

namespace Go.EV
open Go.Proofs

def bfB (p : List Ev) (e : Exec) (i j : Nat) : Bool := hasR (beforeP p e) i j

theorem bf_laws {p : List Ev} (hp : POk p) (hm : Mono p) {e : Exec} (he : e ∈ execsP p) :
  (∀ i, bfB p e i i = false) ∧ (∀ i j k, bfB p e i j = true → bfB p e j k = true → bfB p e i k = true) ∧
  (∀ i j, i < p.length → j < p.length → (evAt p i).th = (evAt p j).th → bfB p e i j = decide (i < j)) := by
 obtain ⟨hs, _, hc⟩ := (exec_iff hp hm).1 he
 have hx := execsP_ok hp he
 have hac := Round.rfOk hc.round
 have hiff : ∀ i j, bfB p e i j = true ↔ Hb p e i j := fun i j => beforeP_iff hm hx hac
 have hirr : ∀ i, bfB p e i i = false := fun i => by
  cases h : bfB p e i i with
  | false => rfl
  | true => exact absurd (.inl ⟨i, (hiff i i).1 h⟩) hc.cross
 have htr : ∀ i j k, bfB p e i j = true → bfB p e j k = true → bfB p e i k = true := fun i j k h1 h2 => (hiff i k).2 (((hiff i j).1 h1).trans ((hiff j k).1 h2))
 have hsb : ∀ i j, i < j → j < p.length → (evAt p i).th = (evAt p j).th → bfB p e i j = true := fun i j hij hj ht => by
  have h := sb_hb hm (e := e) (j - i - 1) i (by omega) (by rw [show i + (j - i - 1) + 1 = j by omega]; exact ht)
  rw [show i + (j - i - 1) + 1 = j by omega] at h
  exact (hiff i j).2 h
 refine ⟨hirr, htr, fun i j hi hj ht => ?_⟩
 by_cases h1 : i < j
 ·rw [decide_eq_true h1]; exact hsb i j h1 hj ht
 ·rw [decide_eq_false h1]
  by_cases h2 : j = i
  ·subst h2; exact hirr j
  ·cases h : bfB p e i j with
   | false => rfl
   | true =>
    have h3 := htr i j i h (hsb j i (by omega) hi ht.symm)
    rw [hirr] at h3; cases h3

section
variable {M : PHeap}

set_option maxHeartbeats 2000000 in
theorem ax_Before_c (ts : List (List OpV)) (s : Value) (hs : SlSl M 5 encOp s ts) (hb : Sized ts) (e : Exec) (v : Value) (hv : IsX M v e) (hz : XSz e) (x y : Int) :
  Con Tryz.prog 27 #[.agg #[s], v, vi x, vi y] M [] fun u _ _ => (checkP ts ≠ 0 ∧ u = .tuple #[vb false, vi (checkP ts)]) ∨
   (checkP ts = 0 ∧ (((failsN (evsOf ts) e ≠ 0 ∨ x < 0 ∨ (evsOf ts).length ≤ x ∨ y < 0 ∨ (evsOf ts).length ≤ y) ∧ u = .tuple #[vb false, vi 1]) ∨
    ((failsN (evsOf ts) e = 0 ∧ 0 ≤ x ∧ x < (evsOf ts).length ∧ 0 ≤ y ∧ y < (evsOf ts).length) ∧ u = .tuple #[vb (bfB (evsOf ts) e x.toNat y.toNat), vi 0]))) := by
 have hs0 := hs
 have hv0 := hv
 obtain ⟨ta, tc, vs, rfl, hl, hrd, hk⟩ := hs
 obtain ⟨f, d, o, n, rfl, ⟨fa, fc, rfl, _⟩, ⟨da, dc, rfl, _⟩, ⟨oa, oc, ovs, rfl, _, _, _⟩, ⟨na, nc, rfl, _⟩⟩ := hv
 refine Con.enter Q1001_ok (args := [.agg #[.slice ta ts.length tc], .agg #[.slice fa e.frm.length fc, .slice da e.dn.length dc, .slice oa e.ord.length oc, .slice na e.fen.length nc], vi x, vi y]) (by simp [Q1001]) fun w0 => ?_
 simp only [Q1001, argE]
 repeat' first
   | refine EV.seq ?_
   | (refine EV.reg ?_; (conv => (arg 2; whnf)); (refine nx ?_; try with_reducible exact ⟨⟩))
   | ((first | with_reducible intro b | refine xrA rfl ?_ | fail); try (refine nx ?_; try with_reducible exact ⟨⟩))
   | fail
 refine Con.callS (G1 := []) (ax_of_c ts _ hs0 hb) ?_
 rintro v M1 G1 hM1 ⟨rfl, (⟨hne, rfl⟩ | ⟨hck, s', rfl, hs1⟩)⟩
 ·simp only [wpS, wpA, wpQL, push_cast, Int.cast_ofNat_Int, reduceIte, Nat.reduceEqDiff, reduceCtorEq, Nat.reduceAdd, Nat.reduceSub, Nat.reduceMul, Int.reduceToNat, Nat.reduceLeDiff]
  repeat' first
    | refine EV.seq ?_
    | (refine EV.reg ?_; (conv => (arg 2; whnf)); simp only [wpS, wpA, wpQL, push_cast, Int.cast_ofNat_Int, reduceIte, Nat.reduceEqDiff, reduceCtorEq, Nat.reduceAdd, Nat.reduceSub, Nat.reduceMul, Int.reduceToNat, Nat.reduceLeDiff, hne])
    | (refine EV.condX rfl (fun h => ?_) (fun h => ?_) <;> try exact dead h)
    | fail
  refine EV.ret Q1001_ok ?_
  simp only [wpS, wpA, wpQL, push_cast, Int.cast_ofNat_Int, reduceIte, Nat.reduceEqDiff, reduceCtorEq, Nat.reduceAdd, Nat.reduceSub, Nat.reduceMul, Int.reduceToNat, Nat.reduceLeDiff, Q1001]
  first | exact .inl hne | exact .inl ⟨hne, rfl⟩ | exact hne | simp [hne]
 ·have hp := evs_pok hck
  have hl14 := evs_len14 hck
  have hfa := fun G => ax_fails_q (M := M1.add G) (evsOf ts) _ (hs1.mono (PHeap.le_add _ _)) hp (evs_mono ts) (evs_kind hck) e _ (IsX.mono (PHeap.le_trans hM1 (PHeap.le_add _ _)) hv0) hz
  have hs2 := hs1
  obtain ⟨pa, pc, rfl, hpr⟩ := hs2
  simp only [wpS, wpA, wpQL, push_cast, Int.cast_ofNat_Int, reduceIte, Nat.reduceEqDiff, reduceCtorEq, Nat.reduceAdd, Nat.reduceSub, Nat.reduceMul, Int.reduceToNat, Nat.reduceLeDiff]
  repeat' first
    | refine EV.seq ?_
    | refine EV.skip ?_
    | (refine EV.reg ?_; (conv => (arg 2; whnf)); (refine nx ?_; try with_reducible exact ⟨⟩))
    | (refine ConQ.call (hfa _) ?_; try (refine nx ?_; try with_reducible exact ⟨⟩))
    | with_reducible assumption
    | (refine condW.merge ?_ (fun hc K' hK => ?_) ?_; rotate_left)
    | (refine EV.condX rfl (fun h => ?_) (fun h => ?_) <;> try exact dead h)
    | (refine xrA rfl ?_; try (refine nx ?_; try with_reducible exact ⟨⟩))
    | fail
  ·refine EV.ret Q1001_ok ?_
   simp only [wpS, wpA, wpQL, push_cast, Int.cast_ofNat_Int, reduceIte, Nat.reduceEqDiff, reduceCtorEq, Nat.reduceAdd, Nat.reduceSub, Nat.reduceMul, Int.reduceToNat, Nat.reduceLeDiff, Q1001]
   refine .inr ⟨hck, .inl ?_⟩
   omega
  ·have hf0 : failsN (evsOf ts) e = 0 := h.1.1.1.1
   have hin : 0 ≤ x ∧ x < (evsOf ts).length ∧ 0 ≤ y ∧ y < (evsOf ts).length := by omega
   have hx := execsP_ok hp ((fails_zero hp (evs_mono ts)).1 hf0)
   obtain ⟨i, rfl⟩ : ∃ i : Nat, x = i := ⟨x.toNat, by omega⟩
   obtain ⟨j, rfl⟩ : ∃ j : Nat, y = j := ⟨y.toNat, by omega⟩
   have hok := beforeP_ok hx
   refine Con.callS (G1 := []) (ax_before_c (evsOf ts) _ hs1 hp e _ (IsX.mono hM1 hv0) hx) ?_
   rintro v2 M2 G2 hM2 ⟨rb, rfl, rfl⟩
   simp only [wpS, wpA, wpQL, push_cast, Int.cast_ofNat_Int, reduceIte, Nat.reduceEqDiff, reduceCtorEq, Nat.reduceAdd, Nat.reduceSub, Nat.reduceMul, Int.reduceToNat, Nat.reduceLeDiff]
   have hi' : i < (evsOf ts).length := by omega
   obtain ⟨hbl, eb1⟩ := hok.get hi'
   have hxa := hok.at (show (evsOf ts).length ≤ 32 by omega) i
   rw [eb1] at hxa
   have hbf : bfB (evsOf ts) e i j = (beforeP (evsOf ts) e)[i].testBit j := by simp only [bfB, hasR, eb1]
   repeat' first
     | fail
   refine ConQ.call (ax_has_q (j := j) (rowAt (f := vu) hbl) hi' (by omega) (by omega) hxa) ?_
   repeat' first
     | fail
   refine EV.ret Q1001_ok ?_
   simp only [wpS, wpA, wpQL, push_cast, Int.cast_ofNat_Int, reduceIte, Nat.reduceEqDiff, reduceCtorEq, Nat.reduceAdd, Nat.reduceSub, Nat.reduceMul, Int.reduceToNat, Nat.reduceLeDiff, Q1001]
   refine .inr ⟨hck, .inr ⟨⟨hf0, by omega, by omega, by omega, by omega⟩, ?_⟩⟩
   rw [hbf]

end
end Go.EV

namespace Go.EV
open Go.Proofs

end Go.EV

namespace Go.EV
open Go.Proofs

section
variable {M : PHeap}

end
end Go.EV

namespace Go.EV
open Go.Proofs

section
variable {M : PHeap} {G : Own} {b : Nat} {T : TypeId} {l : List OpV} {sp : List Value} {i : Nat}
end

section
variable {M : PHeap}

end
end Go.EV

namespace Go.EV
open Go.Proofs

theorem TG.rank {R : Nat → Nat → Prop} {rk : Nat → Nat} (h : ∀ a b, R a b → rk a < rk b) {a b : Nat} (t : TG R a b) : rk a < rk b := by
 induction t with
 | one k => exact h _ _ k
 | more k _ ih => exact Nat.lt_trans (h _ _ k) ih

/-- What goes with a total order is consistent. -/
theorem lin_cons {p : List Ev} {e : Exec} (rk : Nat → Nat) (hth : ∀ a b, a < b → b < p.length → (evAt p a).th = (evAt p b).th → rk a < rk b) (hfo : ∀ a b, Fo1 e.fen a b → rk a < rk b)
  (hlt : ∀ a b, Rf e p.length a b → a < p.length) (hrf : ∀ a b, Rf e p.length a b → rk a < rk b) (hco : ∀ l ∈ e.ord, ∀ a b, Co1 l a b → rk a < rk b) (hfr : ∀ a b, Fr1 p e a b → rk a < rk b) (hn : NextOk p e)
  (hex : ∀ w, exchP p e w = true → w < p.length) : Cons p e := by
 have hsb : ∀ a b, Sb1 p a b → rk a < rk b := fun a b ⟨h1, h2, h3⟩ => hth a b (by omega) h2 h3.symm
 have hbk : ∀ w v, Back p e w v → w < p.length → rk v ≤ rk w ∧ v < p.length := by
  intro w v h
  induction h with
  | here => exact fun h => ⟨Nat.le_refl _, h⟩
  | on h t ih =>
   intro hw
   have h2 := hrf _ _ ⟨hw, h.2⟩
   obtain ⟨h3, h4⟩ := ih (hlt _ _ ⟨hw, h.2⟩)
   exact ⟨by omega, h4⟩
 have hrel : ∀ w c, Rel1 p w c → w < p.length → rk c ≤ rk w := by
  rintro w c ⟨_, rfl | ⟨h1, h2, _⟩⟩ hw
  ·exact Nat.le_refl _
  ·exact Nat.le_of_lt (hth c w h1 hw h2)
 have hacq : ∀ r c, Acq1 p r c → rk r ≤ rk c := by
  rintro r c ⟨_, rfl | ⟨h1, h2, h3, _⟩⟩
  ·exact Nat.le_refl _
  ·exact Nat.le_of_lt (hth r c h1 h2 h3.symm)
 have hsw : ∀ a b, Sw p e a b → rk a < rk b := by
  rintro a b ⟨r, w, v, hr, _, hf, hb, h1, h2⟩
  have k1 := hrf w r ⟨hr, hf⟩
  obtain ⟨k2, k3⟩ := hbk w v hb (hlt w r ⟨hr, hf⟩)
  have k4 := hrel v a h1 k3
  have k5 := hacq r b h2
  omega
 have hhb : ∀ a b, Hb p e a b → rk a < rk b := fun a b h => TG.rank (rk := rk) (fun x y k => by
  rcases k with k | k | k
  ·exact hsb _ _ k
  ·exact hfo _ _ k
  ·exact hsw _ _ k) h
 have hec : ∀ a b, Eco p e a b → rk a < rk b := fun a b h => TG.rank (rk := rk) (fun x y k => by
  rcases k with ⟨l, hl, k⟩ | ⟨_, k⟩ | k
  ·exact hco l hl _ _ k
  ·exact hrf _ _ k
  ·exact hfr _ _ k) h
 refine ⟨?_, ?_, hn⟩
 ·rintro ⟨a, h⟩
  refine Nat.lt_irrefl _ (TG.rank (rk := rk) (fun x y k => ?_) h)
  rcases k with k | k | k
  ·exact hsb _ _ k
  ·exact hfo _ _ k
  ·exact hrf _ _ k
 ·rintro (⟨a, h⟩ | ⟨a, b, h1, h2⟩)
  ·exact Nat.lt_irrefl _ (hhb _ _ h)
  ·have := hhb _ _ h1
   have := hec _ _ h2
   omega

/-! ### A run of events -/
structure Sx where
 wd : Int → Int
 lw : Int → Int
 R : Nat → Int
 frm : Nat → Int
 dn : Nat → Bool
 W : Nat → Int

def upI {α : Type} (f : Int → α) (k : Int) (x : α) : Int → α := fun j => if j = k then x else f j
def upN {α : Type} (f : Nat → α) (k : Nat) (x : α) : Nat → α := fun j => if j = k then x else f j

def sx0 : Sx := ⟨fun _ => 0, fun _ => -1, fun _ => 0, fun _ => -2, fun _ => false, fun _ => 0⟩

/-- Whether an operation writes, where v is there. -/
def wrO (o : OpV) (v : Int) (ch : Bool) : Bool := if o.kind = 1 ∨ o.kind = 2 then true else if o.kind = 3 then decide (v = o.v) else if o.kind = 4 then decide (v = o.v) && ch else false
/-- What it writes. -/
def nwO (o : OpV) (v : Int) : Int := if o.kind = 1 then o.v else if o.kind = 2 then IntKind.i64.wrap (v + o.v) else o.w

def stepX (p : List Ev) (s : Sx) (x : Nat × Bool) : Sx :=
 let o := (evAt p x.1).op
 let v := s.wd o.loc
 let w := wrO o v x.2
 {wd := if w then upI s.wd o.loc (nwO o v) else s.wd
  lw := if w then upI s.lw o.loc x.1 else s.lw
  R := upN s.R x.1 (if (evAt p x.1).reads then v else 0)
  frm := upN s.frm x.1 (if (evAt p x.1).reads then s.lw o.loc else -2)
  dn := upN s.dn x.1 w
  W := upN s.W x.1 (nwO o v) }

def runX (p : List Ev) (tr : List (Nat × Bool)) : Sx := tr.foldl (stepX p) sx0

theorem runX_snoc {p : List Ev} {tr : List (Nat × Bool)} {x : Nat × Bool} : runX p (tr ++ [x]) = stepX p (runX p tr) x := by simp [runX, List.foldl_append]

/-- The last of a list of events, or -1. -/
def lastW (l : List Nat) : Int := match l.getLast? with | none => -1 | some i => i

def wrX (p : List Ev) (s : Sx) (k : Int) (i : Nat) : Bool := s.dn i && decide ((evAt p i).op.loc = k)

variable {p : List Ev}

theorem runX_keep {tr : List (Nat × Bool)} {x : Nat × Bool} {i : Nat} (h : i ≠ x.1) : (runX p (tr ++ [x])).R i = (runX p tr).R i ∧ (runX p (tr ++ [x])).frm i = (runX p tr).frm i ∧ (runX p (tr ++ [x])).dn i = (runX p tr).dn i ∧ (runX p (tr ++ [x])).W i = (runX p tr).W i := by
 rw [runX_snoc]
 simp [stepX, upN, h]

theorem snoc_ind {α : Type} {C : List α → Prop} (h0 : C []) (h1 : ∀ l x, C l → C (l ++ [x])) (l : List α) : C l := by
 rw [← l.reverse_reverse]
 induction l.reverse with
 | nil => exact h0
 | cons a t ih => rw [List.reverse_cons]; exact h1 _ _ ih

/-- What stands of an event when it is done, stays. -/
theorem runX_stay {l1 l2 : List (Nat × Bool)} : ∀ {i : Nat}, (∀ x ∈ l2, i ≠ x.1) → (runX p (l1 ++ l2)).R i = (runX p l1).R i ∧ (runX p (l1 ++ l2)).frm i = (runX p l1).frm i ∧ (runX p (l1 ++ l2)).dn i = (runX p l1).dn i ∧ (runX p (l1 ++ l2)).W i = (runX p l1).W i := by
 refine snoc_ind (C := fun l2 => ∀ {i : Nat}, (∀ x ∈ l2, i ≠ x.1) → (runX p (l1 ++ l2)).R i = (runX p l1).R i ∧ (runX p (l1 ++ l2)).frm i = (runX p l1).frm i ∧ (runX p (l1 ++ l2)).dn i = (runX p l1).dn i ∧ (runX p (l1 ++ l2)).W i = (runX p l1).W i) ?_ ?_ l2
 ·intro i _; simp
 ·intro l x ih i h
  rw [← List.append_assoc]
  obtain ⟨a1, a2, a3, a4⟩ := runX_keep (p := p) (tr := l1 ++ l) (x := x) (i := i) (h x (by simp))
  obtain ⟨b1, b2, b3, b4⟩ := ih (i := i) (fun y hy => h y (by simp [hy]))
  exact ⟨a1.trans b1, a2.trans b2, a3.trans b3, a4.trans b4⟩

/-- The words and last writers go with the list of writers. -/
theorem runX_last {tr : List (Nat × Bool)} (hn : (tr.map Prod.fst).Nodup) (k : Int) :
  (runX p tr).lw k = lastW ((tr.map Prod.fst).filter (wrX p (runX p tr) k)) ∧ ((runX p tr).lw k = -1 ∧ (runX p tr).wd k = 0 ∨ ∃ w : Nat, (runX p tr).lw k = w ∧ (runX p tr).wd k = (runX p tr).W w) := by
 revert hn
 refine snoc_ind (C := fun tr => (tr.map Prod.fst).Nodup → (runX p tr).lw k = lastW ((tr.map Prod.fst).filter (wrX p (runX p tr) k)) ∧ ((runX p tr).lw k = -1 ∧ (runX p tr).wd k = 0 ∨ ∃ w : Nat, (runX p tr).lw k = w ∧ (runX p tr).wd k = (runX p tr).W w)) ?_ ?_ tr
 ·intro _; exact ⟨rfl, .inl ⟨rfl, rfl⟩⟩
 ·intro l x ih hn
  rw [List.map_append, List.nodup_append] at hn
  obtain ⟨hn1, _, hn2⟩ := hn
  have hx : x.1 ∉ l.map Prod.fst := fun h => hn2 x.1 h x.1 (by simp) rfl
  obtain ⟨ih1, ih2⟩ := ih hn1
  have hf : (l.map Prod.fst).filter (wrX p (runX p (l ++ [x])) k) = (l.map Prod.fst).filter (wrX p (runX p l) k) := by
   apply List.filter_congr
   intro i hi
   have hne : i ≠ x.1 := fun e => hx (e ▸ hi)
   simp only [wrX, (runX_keep (p := p) (tr := l) hne).2.2.1]
  rw [List.map_append, List.filter_append, hf]
  generalize hL : (l.map Prod.fst).filter (wrX p (runX p l) k) = L at *
  have hmem : ∀ i ∈ L, i ≠ x.1 := by
   intro i hi e
   rw [← hL] at hi
   exact hx (e ▸ (List.mem_filter.1 hi).1)
  have hlwn : ∀ w : Nat, (runX p l).lw k = w → w ≠ x.1 := by
   intro w hw
   rw [ih1, lastW] at hw
   cases hg : L.getLast? with
   | none => rw [hg] at hw; simp only at hw; omega
   | some i =>
    rw [hg] at hw
    simp only at hw
    have : i = w := by omega
    exact hmem w (this ▸ List.mem_of_getLast? hg)
  simp only [List.map_cons, List.map_nil, List.filter_cons, List.filter_nil]
  rw [runX_snoc]
  by_cases hw : wrO (evAt p x.1).op ((runX p l).wd (evAt p x.1).op.loc) x.2 = true
  ·by_cases hk : (evAt p x.1).op.loc = k
   ·subst hk
    have h1 : wrX p (stepX p (runX p l) x) (evAt p x.1).op.loc x.1 = true := by simp [wrX, stepX, upN, hw]
    rw [if_pos h1]
    constructor
    ·simp [stepX, hw, upI, lastW]
    ·exact .inr ⟨x.1, by simp [stepX, hw, upI], by simp [stepX, hw, upI, upN]⟩
   ·have h1 : wrX p (stepX p (runX p l) x) k x.1 = false := by simp [wrX, hk]
    have hk' : k ≠ (evAt p x.1).op.loc := fun e => hk e.symm
    rw [if_neg (by rw [h1]; decide), List.append_nil]
    have e1 : (stepX p (runX p l) x).lw k = (runX p l).lw k := by simp [stepX, hw, upI, hk']
    have e2 : (stepX p (runX p l) x).wd k = (runX p l).wd k := by simp [stepX, hw, upI, hk']
    rw [e1, e2]
    refine ⟨ih1, ?_⟩
    rcases ih2 with h | ⟨w, h2, h3⟩
    ·exact .inl h
    ·exact .inr ⟨w, h2, by rw [h3]; simp [stepX, upN, hlwn w h2]⟩
  ·have h1 : wrX p (stepX p (runX p l) x) k x.1 = false := by simp [wrX, stepX, upN, hw]
   rw [if_neg (by rw [h1]; decide), List.append_nil]
   have e1 : (stepX p (runX p l) x).lw k = (runX p l).lw k := by simp [stepX, hw]
   have e2 : (stepX p (runX p l) x).wd k = (runX p l).wd k := by simp [stepX, hw]
   rw [e1, e2]
   refine ⟨ih1, ?_⟩
   rcases ih2 with h | ⟨w, h2, h3⟩
   ·exact .inl h
   ·exact .inr ⟨w, h2, by rw [h3]; simp [stepX, upN, hlwn w h2]⟩

end Go.EV

namespace Go.EV
open Go.Proofs

variable {p : List Ev} {tr : List (Nat × Bool)}

/-- All events, each once, those of a thread in their order. -/
structure IsRun (p : List Ev) (tr : List (Nat × Bool)) : Prop where
 perm : (tr.map Prod.fst).Perm (List.range p.length)
 keep : (tr.map Prod.fst).Pairwise fun a b => (evAt p a).th = (evAt p b).th → a < b

theorem IsRun.nodup (h : IsRun p tr) : (tr.map Prod.fst).Nodup := h.perm.nodup_iff.2 List.nodup_range
theorem IsRun.mem (h : IsRun p tr) {i : Nat} : i ∈ tr.map Prod.fst ↔ i < p.length := by rw [h.perm.mem_iff, List.mem_range]

def rkX (tr : List (Nat × Bool)) (i : Nat) : Nat := (tr.map Prod.fst).idxOf i

def ordX (p : List Ev) (tr : List (Nat × Bool)) (k : Int) : List Nat := (tr.map Prod.fst).filter (wrX p (runX p tr) k)
def fenX (p : List Ev) (tr : List (Nat × Bool)) : List Nat := (tr.map Prod.fst).filter fun i => (evAt p i).strong
def toI (l : List Nat) : List Int := l.map fun (i : Nat) => (i : Int)
def execX (p : List Ev) (tr : List (Nat × Bool)) : Exec :=
 ⟨(List.range p.length).map (runX p tr).frm, (List.range p.length).map (runX p tr).dn, [toI (ordX p tr 0), toI (ordX p tr 1), toI (ordX p tr 2)], toI (fenX p tr)⟩

theorem frmAt_X {i : Nat} (hi : i < p.length) : frmAt (execX p tr) i = (runX p tr).frm i := by simp [frmAt, execX, hi]
theorem dnAt_X {i : Nat} (hi : i < p.length) : dnAt (execX p tr).dn i = (runX p tr).dn i := by simp [dnAt, execX, hi]
theorem ord_X {k : Nat} (hk : k < 3) : (execX p tr).ord[k]?.getD [] = toI (ordX p tr k) := by
 match k, hk with
 | 0, _ => rfl
 | 1, _ => rfl
 | 2, _ => rfl

theorem idx_asc {l : List Nat} (hn : l.Nodup) : l.Pairwise fun a b => l.idxOf a < l.idxOf b := by
 rw [List.pairwise_iff_getElem]
 intro i j hi hj hij
 rw [hn.idxOf_getElem i hi, hn.idxOf_getElem j hj]; exact hij

theorem lastW_mem {l : List Nat} {w : Nat} (h : lastW l = w) : w ∈ l := by
 unfold lastW at h
 split at h
 ·omega
 ·rename_i i hi
  have : i = w := by omega
  exact this ▸ List.mem_of_getLast? hi
theorem lastW_none {l : List Nat} : lastW l = -1 ↔ l = [] := by
 unfold lastW
 split
 ·rename_i h; simpa using h
 ·rename_i i hi
  constructor
  ·intro h; omega
  ·rintro rfl; simp at hi
theorem lastW_cases (l : List Nat) : lastW l = -1 ∨ ∃ w : Nat, lastW l = w := by
 unfold lastW
 split
 ·exact .inl rfl
 ·exact .inr ⟨_, rfl⟩
theorem lastW_max {l : List Nat} {f : Nat → Nat} (hp : l.Pairwise fun a b => f a < f b) {u : Nat} (h : lastW l = u) {w : Nat} (hw : w ∈ l) : f w ≤ f u := by
 have hne : l ≠ [] := fun e => by rw [e] at hw; cases hw
 have hu : u = l.getLast hne := by
  unfold lastW at h
  rw [List.getLast?_eq_some_getLast hne] at h
  simp only at h; omega
 rw [hu]
 rw [← List.dropLast_concat_getLast hne] at hw hp
 rw [List.pairwise_append] at hp
 rcases List.mem_append.1 hw with h1 | h1
 ·exact Nat.le_of_lt (hp.2.2 _ h1 _ (by simp))
 ·simp only [List.mem_singleton] at h1; rw [h1]; exact Nat.le_refl _

/-- An event in its place. -/
theorem IsRun.at (h : IsRun p tr) {i : Nat} (hi : i < p.length) : ∃ l1 c l2, tr = l1 ++ (i, c) :: l2 ∧ i ∉ l1.map Prod.fst ∧ i ∉ l2.map Prod.fst ∧ rkX tr i = l1.length ∧ (∀ x ∈ l1.map Prod.fst, rkX tr x < rkX tr i ∧ x < p.length) ∧ (∀ x, x < p.length → rkX tr x < rkX tr i → x ∈ l1.map Prod.fst) := by
 have hm := h.mem.2 hi
 obtain ⟨⟨i', c⟩, hx, e⟩ := List.mem_map.1 hm
 simp only at e; subst e
 obtain ⟨l1, l2, rfl⟩ := List.append_of_mem hx
 have hn := h.nodup
 rw [List.map_append, List.map_cons, List.nodup_append, List.nodup_cons] at hn
 obtain ⟨n1, ⟨n2, n3⟩, n4⟩ := hn
 have h1 : i' ∉ l1.map Prod.fst := fun hh => n4 _ hh i' (by simp) rfl
 have hidx : rkX (l1 ++ (i', c) :: l2) i' = l1.length := by
  simp only [rkX, List.map_append, List.map_cons]
  rw [List.idxOf_append, if_neg h1, List.idxOf_cons_self]; simp
 refine ⟨l1, c, l2, rfl, h1, n2, hidx, ?_, ?_⟩
 ·intro x hx1
  refine ⟨?_, h.mem.1 (by simp only [List.map_append, List.mem_append]; exact .inl hx1)⟩
  rw [hidx]
  simp only [rkX, List.map_append]
  rw [List.idxOf_append, if_pos hx1]
  have := List.idxOf_lt_length_of_mem hx1
  rwa [List.length_map] at this
 ·intro x hxl hlt
  rw [hidx] at hlt
  apply Classical.byContradiction
  intro hx1
  simp only [rkX, List.map_append] at hlt
  rw [List.idxOf_append, if_neg hx1, List.length_map] at hlt
  omega

/-- What stands of an event at the end. -/
theorem IsRun.doneC (h : IsRun p tr) {i : Nat} (hi : i < p.length) : ∃ l1 c, (i, c) ∈ tr ∧ rkX tr i = l1.length ∧ (∀ x ∈ l1, rkX tr x < rkX tr i ∧ x < p.length) ∧ (∀ x, x < p.length → rkX tr x < rkX tr i → x ∈ l1) ∧ l1 <+: tr.map Prod.fst ∧
  ∃ v lw, (runX p tr).R i = (if (evAt p i).reads then v else 0) ∧ (runX p tr).frm i = (if (evAt p i).reads then lw else -2) ∧ (runX p tr).dn i = wrO (evAt p i).op v c ∧ (runX p tr).W i = nwO (evAt p i).op v ∧
   lw = lastW (l1.filter (wrX p (runX p tr) (evAt p i).op.loc)) ∧ (lw = -1 ∧ v = 0 ∨ ∃ w : Nat, lw = w ∧ v = (runX p tr).W w) := by
 obtain ⟨l1, c, l2, e, h1, h2, h3, h4, h5⟩ := h.at hi
 refine ⟨l1.map Prod.fst, c, by rw [e]; simp, by rw [h3, List.length_map], h4, h5, ⟨i :: l2.map Prod.fst, by rw [e]; simp⟩, (runX p l1).wd (evAt p i).op.loc, (runX p l1).lw (evAt p i).op.loc, ?_⟩
 have hn := h.nodup
 rw [e, List.map_append, List.nodup_append] at hn
 have hst : ∀ {j : Nat}, j ∈ l1.map Prod.fst → (runX p tr).R j = (runX p l1).R j ∧ (runX p tr).frm j = (runX p l1).frm j ∧ (runX p tr).dn j = (runX p l1).dn j ∧ (runX p tr).W j = (runX p l1).W j := by
  intro j hj
  rw [e]
  refine runX_stay fun x hx hjx => ?_
  exact hn.2.2 j hj x.1 (List.mem_map.2 ⟨x, hx, rfl⟩) hjx
 have hend : (runX p tr).R i = (stepX p (runX p l1) (i, c)).R i ∧ (runX p tr).frm i = (stepX p (runX p l1) (i, c)).frm i ∧ (runX p tr).dn i = (stepX p (runX p l1) (i, c)).dn i ∧ (runX p tr).W i = (stepX p (runX p l1) (i, c)).W i := by
  rw [e, ← runX_snoc, show l1 ++ (i, c) :: l2 = (l1 ++ [(i, c)]) ++ l2 by simp]
  exact runX_stay fun x hx hjx => h2 (List.mem_map.2 ⟨x, hx, hjx.symm⟩)
 obtain ⟨q1, q2⟩ := runX_last (p := p) hn.1 (evAt p i).op.loc
 have hflt : (l1.map Prod.fst).filter (wrX p (runX p l1) (evAt p i).op.loc) = (l1.map Prod.fst).filter (wrX p (runX p tr) (evAt p i).op.loc) := by
  apply List.filter_congr
  intro j hj
  simp only [wrX, (hst hj).2.2.1]
 refine ⟨by rw [hend.1]; simp [stepX, upN], by rw [hend.2.1]; simp [stepX, upN], by rw [hend.2.2.1]; simp [stepX, upN], by rw [hend.2.2.2]; simp [stepX, upN], by rw [q1, hflt], ?_⟩
 rcases q2 with q2 | ⟨w, q2, q3⟩
 ·exact .inl q2
 ·refine .inr ⟨w, q2, ?_⟩
  rw [q3]
  have hw : w ∈ l1.map Prod.fst := by
   rw [q1] at q2
   exact (List.mem_filter.1 (lastW_mem q2)).1
  exact (hst hw).2.2.2.symm

theorem IsRun.done (h : IsRun p tr) {i : Nat} (hi : i < p.length) : ∃ l1 c, rkX tr i = l1.length ∧ (∀ x ∈ l1, rkX tr x < rkX tr i ∧ x < p.length) ∧ (∀ x, x < p.length → rkX tr x < rkX tr i → x ∈ l1) ∧ l1 <+: tr.map Prod.fst ∧
  ∃ v lw, (runX p tr).R i = (if (evAt p i).reads then v else 0) ∧ (runX p tr).frm i = (if (evAt p i).reads then lw else -2) ∧ (runX p tr).dn i = wrO (evAt p i).op v c ∧ (runX p tr).W i = nwO (evAt p i).op v ∧
   lw = lastW (l1.filter (wrX p (runX p tr) (evAt p i).op.loc)) ∧ (lw = -1 ∧ v = 0 ∨ ∃ w : Nat, lw = w ∧ v = (runX p tr).W w) :=
 let ⟨l1, c, _, k⟩ := h.doneC hi; ⟨l1, c, k⟩

theorem wrO_kind {o : OpV} {v : Int} {c : Bool} (h : wrO o v c = true) : 1 ≤ o.kind ∧ o.kind ≤ 4 := by
 unfold wrO at h
 split at h
 ·omega
 ·split at h
  ·omega
  ·split at h
   ·omega
   ·cases h

theorem mem_ordX (h : IsRun p tr) {k : Int} {i : Nat} : i ∈ ordX p tr k ↔ i < p.length ∧ (runX p tr).dn i = true ∧ (evAt p i).op.loc = k := by
 simp only [ordX, List.mem_filter, h.mem, wrX, Bool.and_eq_true, decide_eq_true_eq]

theorem ordX_asc (h : IsRun p tr) (k : Int) : (ordX p tr k).Pairwise fun a b => rkX tr a < rkX tr b := (idx_asc h.nodup).filter _
theorem fenX_asc (h : IsRun p tr) : (fenX p tr).Pairwise fun a b => rkX tr a < rkX tr b := (idx_asc h.nodup).filter _

theorem toI_nodup {l : List Nat} (h : l.Nodup) : (toI l).Nodup := by
 unfold toI
 rw [List.Nodup, List.pairwise_map]
 exact h.imp fun hab e => hab (by omega)
theorem mem_toI {l : List Nat} {x : Int} : x ∈ toI l ↔ ∃ i : Nat, i ∈ l ∧ x = i := by
 simp only [toI, List.mem_map]
 constructor
 ·rintro ⟨i, h, rfl⟩; exact ⟨i, h, rfl⟩
 ·rintro ⟨i, h, rfl⟩; exact ⟨i, h, rfl⟩
theorem numAt_toI {l : List Nat} {i : Nat} (hi : i < l.length) : numAt (toI l) i = (l[i] : Nat) := by simp [numAt, toI, hi]
theorem toI_len {l : List Nat} : (toI l).length = l.length := by simp [toI]

/-- Positions in an ascending list. -/
theorem co_asc {l : List Nat} {f : Nat → Nat} (h : l.Pairwise fun a b => f a < f b) {a b : Nat} (hc : Co1 (toI l) a b) : f a < f b := by
 obtain ⟨i, j, hij, hj, e1, e2⟩ := hc
 rw [toI_len] at hj
 rw [numAt_toI (by omega)] at e1
 rw [numAt_toI hj] at e2
 have := List.pairwise_iff_getElem.1 h i j (by omega) hj hij
 have e1' : l[i] = a := by omega
 have e2' : l[j] = b := by omega
 rw [e1', e2'] at this; exact this

end Go.EV

namespace Go.EV
open Go.Proofs

variable {p : List Ev} {tr : List (Nat × Bool)}

theorem run_rf (h : IsRun p tr) {a b : Nat} (hr : Rf (execX p tr) p.length a b) : (evAt p b).reads = true ∧ a < p.length ∧ rkX tr a < rkX tr b ∧ (runX p tr).dn a = true ∧ (evAt p a).op.loc = (evAt p b).op.loc := by
 obtain ⟨hb, hf⟩ := hr
 rw [frmAt_X hb] at hf
 obtain ⟨l1, c, _, h4, _, _, v, lw, _, e2, _, _, e5, _⟩ := h.done hb
 cases hrd : (evAt p b).reads with
 | false => rw [e2, hrd] at hf; simp at hf
 | true =>
  rw [e2, hrd, if_pos rfl, e5] at hf
  have hm := List.mem_filter.1 (lastW_mem hf)
  obtain ⟨k1, k2⟩ := h4 a hm.1
  have k3 := hm.2
  simp only [wrX, Bool.and_eq_true, decide_eq_true_eq] at k3
  exact ⟨rfl, k2, k1, k3.1, k3.2⟩

theorem rk_inj (h : IsRun p tr) {a b : Nat} (ha : a < p.length) (hb : b < p.length) (e : rkX tr a = rkX tr b) : a = b := by
 have h1 := h.mem.2 ha
 have h2 := h.mem.2 hb
 unfold rkX at e
 have e1 := List.getElem_idxOf (List.idxOf_lt_length_of_mem h1)
 have e2 := List.getElem_idxOf (List.idxOf_lt_length_of_mem h2)
 rw [← e1, ← e2]
 simp only [e]

theorem rk_th (h : IsRun p tr) {a b : Nat} (hab : a < b) (hb : b < p.length) (e : (evAt p a).th = (evAt p b).th) : rkX tr a < rkX tr b := by
 apply Classical.byContradiction
 intro hn
 have hne : rkX tr a ≠ rkX tr b := fun e' => by have := rk_inj h (by omega) hb e'; omega
 have hlt : rkX tr b < rkX tr a := by omega
 have h1 := h.mem.2 (show a < p.length by omega)
 have h2 := h.mem.2 hb
 unfold rkX at hlt
 have := List.pairwise_iff_getElem.1 h.keep _ _ (List.idxOf_lt_length_of_mem h2) (List.idxOf_lt_length_of_mem h1) hlt
 rw [List.getElem_idxOf, List.getElem_idxOf] at this
 have := this e.symm
 omega

theorem run_shape (h : IsRun p tr) (hp : POk p) : Shape p (execX p tr) := by
 refine ⟨by simp [execX], by simp [execX], rfl, ?_, ?_, ?_, ?_, ?_, ?_⟩
 ·intro i hi hk
  rw [dnAt_X hi]
  obtain ⟨l1, c, _, _, _, _, v, lw, _, _, e3, _⟩ := h.done hi
  rw [e3, wrO, if_pos hk]
 ·intro i hi hd
  rw [dnAt_X hi] at hd
  obtain ⟨l1, c, _, _, _, _, v, lw, _, _, e3, _⟩ := h.done hi
  rw [e3] at hd
  exact wrO_kind hd
 ·intro i hi hr
  rw [frmAt_X hi]
  obtain ⟨l1, c, _, _, _, _, v, lw, _, e2, _⟩ := h.done hi
  rw [e2, hr]; rfl
 ·intro i hi hr
  rw [frmAt_X hi]
  obtain ⟨l1, c, _, _, _, _, v, lw, _, e2, _, _, e5, _⟩ := h.done hi
  rcases lastW_cases (l1.filter (wrX p (runX p tr) (evAt p i).op.loc)) with k | ⟨w, k⟩
  ·left; rw [e2, hr, if_pos rfl, e5, k]
  ·right
   have hw : frmAt (execX p tr) i = w := by rw [frmAt_X hi, e2, hr, if_pos rfl, e5, k]
   obtain ⟨_, k2, _, k4, k5⟩ := run_rf h ⟨hi, hw⟩
   rw [frmAt_X hi] at hw
   exact ⟨w, hw, k2, by rw [dnAt_X k2]; exact k4, k5⟩
 ·intro k hk
  rw [ord_X hk]
  refine (List.perm_ext_iff_of_nodup (toI_nodup (h.nodup.filter _)) (asc_nodup (writers_asc _ _ _))).2 fun x => ?_
  rw [mem_toI, mem_writersI]
  constructor
  ·rintro ⟨i, h1, rfl⟩
   obtain ⟨q1, q2, q3⟩ := (mem_ordX h).1 h1
   refine ⟨i, rfl, q1, ?_, by rw [dnAt_X q1]; exact q2, q3⟩
   obtain ⟨l1, c, _, _, _, _, v, lw, _, _, e3, _⟩ := h.done q1
   rw [e3] at q2
   have := wrO_kind q2
   omega
  ·rintro ⟨i, rfl, q1, _, q2, q3⟩
   rw [dnAt_X q1] at q2
   exact ⟨i, (mem_ordX h).2 ⟨q1, q2, q3⟩, rfl⟩
 ·refine (List.perm_ext_iff_of_nodup (toI_nodup (h.nodup.filter _)) (asc_nodup (fences_asc _))).2 fun x => ?_
  rw [mem_fencesI, mem_toI]
  simp only [List.mem_filter, h.mem]
  constructor
  ·rintro ⟨i, ⟨h1, h2⟩, rfl⟩; exact ⟨i, rfl, h1, h2⟩
  ·rintro ⟨i, rfl, h1, h2⟩; exact ⟨i, ⟨h1, h2⟩, rfl⟩

theorem run_next (h : IsRun p tr) (hp : POk p) : NextOk p (execX p tr) := by
 intro l hl i hi hr
 obtain ⟨k, hk, rfl⟩ : ∃ k : Int, (k = 0 ∨ k = 1 ∨ k = 2) ∧ l = toI (ordX p tr k) := by
  simp only [execX, List.mem_cons, List.not_mem_nil, or_false] at hl
  rcases hl with h | h | h
  ·exact ⟨0, .inl rfl, h⟩
  ·exact ⟨1, .inr (.inl rfl), h⟩
  ·exact ⟨2, .inr (.inr rfl), h⟩
 rw [toI_len] at hi
 rw [numAt_toI hi] at hr ⊢
 rw [Int.toNat_natCast] at hr ⊢
 obtain ⟨q1, q2, q3⟩ := (mem_ordX h).1 (List.getElem_mem hi)
 rw [frmAt_X q1]
 obtain ⟨l1, c, e0, h4, h5, ⟨l2, hl2⟩, v, lw, _, e2, _, _, e5, _⟩ := h.done q1
 rw [e2, hr, if_pos rfl, e5, q3]
 have hasc := ordX_asc h k
 have hsub : l1.filter (wrX p (runX p tr) k) = (ordX p tr k).take i := by
  have hpre : (ordX p tr k) = l1.filter (wrX p (runX p tr) k) ++ l2.filter (wrX p (runX p tr) k) := by
   unfold ordX; rw [← hl2, List.filter_append]
  have hlen : (l1.filter (wrX p (runX p tr) k)).length = i := by
   rw [List.pairwise_iff_getElem] at hasc
   rcases Nat.lt_trichotomy (l1.filter (wrX p (runX p tr) k)).length i with hlt | heq | hgt
   ·exfalso
    have h8 := hasc _ i (by omega) hi hlt
    have hm : (ordX p tr k)[(l1.filter (wrX p (runX p tr) k)).length]'(by omega) ∈ ordX p tr k := List.getElem_mem _
    have h9 := h5 _ ((mem_ordX h).1 hm).1 h8
    have h10 : (ordX p tr k)[(l1.filter (wrX p (runX p tr) k)).length]'(by omega) ∈ l1.filter (wrX p (runX p tr) k) := List.mem_filter.2 ⟨h9, (List.mem_filter.1 hm).2⟩
    obtain ⟨j, hj, ej⟩ := List.getElem_of_mem h10
    have h11 := hasc j _ (by omega) (by omega : (l1.filter (wrX p (runX p tr) k)).length < (ordX p tr k).length) hj
    have : (ordX p tr k)[j]'(by omega) = (l1.filter (wrX p (runX p tr) k))[j] := by simp only [hpre]; rw [List.getElem_append_left hj]
    rw [this, ej] at h11
    exact Nat.lt_irrefl _ h11
   ·exact heq
   ·exfalso
    have hm : (ordX p tr k)[i] ∈ l1 := by
     have : (ordX p tr k)[i] = (l1.filter (wrX p (runX p tr) k))[i] := by simp only [hpre]; rw [List.getElem_append_left hgt]
     rw [this]; exact (List.mem_filter.1 (List.getElem_mem hgt)).1
    exact Nat.lt_irrefl _ (h4 _ hm).1
  rw [hpre, ← hlen, List.take_left']
  rfl
 rw [hsub]
 cases i with
 | zero => rfl
 | succ i =>
  rw [frontAt, numAt_toI (by omega)]
  unfold lastW
  have : ((ordX p tr k).take (i + 1)).getLast? = some ((ordX p tr k)[i]'(by omega)) := by
   rw [List.take_succ_eq_append_getElem (by omega), List.getLast?_concat]
  rw [this]

theorem run_cons (h : IsRun p tr) (hp : POk p) : Cons p (execX p tr) := by
 refine lin_cons (rkX tr) (fun a b h1 h2 h3 => rk_th h h1 h2 h3) ?_ (fun a b k => (run_rf h k).2.1) (fun a b k => (run_rf h k).2.2.1) ?_ ?_ (run_next h hp) ?_
 ·rintro a b ⟨j, hj, e1, e2⟩
  exact co_asc (fenX_asc h) ⟨j, j + 1, by omega, hj, e1, e2⟩
 ·intro l hl a b hc
  simp only [execX, List.mem_cons, List.not_mem_nil, or_false] at hl
  rcases hl with rfl | rfl | rfl
  ·exact co_asc (ordX_asc h 0) hc
  ·exact co_asc (ordX_asc h 1) hc
  ·exact co_asc (ordX_asc h 2) hc
 ·rintro r w ⟨hr, hrd, hne, j, hj, ej, hfr⟩
  have hloc := hp.loc r hr
  have hoe : ordAt p (execX p tr) r = toI (ordX p tr (evAt p r).op.loc) := by
   rw [ordAt, ord_X (by omega)]
   rw [Int.toNat_of_nonneg hloc.1]
  rw [hoe] at hj ej hfr
  rw [toI_len] at hj
  have hw : (ordX p tr (evAt p r).op.loc)[j] = w := by rw [numAt_toI hj] at ej; omega
  have hwm : w ∈ ordX p tr (evAt p r).op.loc := hw ▸ List.getElem_mem hj
  have hwn := ((mem_ordX h).1 hwm).1
  apply Classical.byContradiction
  intro hnl
  have hlt : rkX tr w < rkX tr r := by
   have : rkX tr w ≠ rkX tr r := fun e => hne (rk_inj h hwn hr e)
   omega
  obtain ⟨l1, c, e0, h4, h5, ⟨l2, hl2⟩, v, lw, _, e2, _, _, e5, _⟩ := h.done hr
  have hwl : w ∈ l1.filter (wrX p (runX p tr) (evAt p r).op.loc) := List.mem_filter.2 ⟨h5 w hwn hlt, (List.mem_filter.1 hwm).2⟩
  rw [frmAt_X hr, e2, hrd, if_pos rfl, e5] at hfr
  have hpl : (l1.filter (wrX p (runX p tr) (evAt p r).op.loc)).Pairwise fun a b => rkX tr a < rkX tr b := by
   have := (idx_asc h.nodup)
   rw [← hl2, List.pairwise_append] at this
   have h6 := this.1.filter (wrX p (runX p tr) (evAt p r).op.loc)
   refine h6.imp fun k => ?_
   rw [hl2] at k; exact k
  rcases hfr with k | ⟨i, hij, k⟩
  ·rw [lastW_none] at k; rw [k] at hwl; cases hwl
  ·rw [numAt_toI (by omega)] at k
   have h7 := lastW_max hpl k.symm hwl
   have h8 := List.pairwise_iff_getElem.1 (ordX_asc h (evAt p r).op.loc) i j (by omega) hj hij
   rw [hw] at h8
   omega
 ·intro w hx
  apply Classical.byContradiction
  intro hw
  have : (execX p tr).dn[w]? = none := List.getElem?_eq_none (by simp [execX]; omega)
  simp [exchP, this] at hx

theorem run_words (h : IsRun p tr) (hp : POk p) : Words p (execX p tr).frm (runX p tr).R (runX p tr).W := by
 have hnum : ∀ i, numF (execX p tr).frm i = frmAt (execX p tr) i := fun i => rfl
 refine ⟨?_, ?_, ?_, ?_, ?_, ?_⟩
 ·intro i hi hr
  obtain ⟨l1, c, _, _, _, _, v, lw, e1, _⟩ := h.done hi
  rw [e1, hr]; rfl
 ·intro i hi hr hf
  obtain ⟨l1, c, _, _, _, _, v, lw, e1, e2, _, _, _, e6⟩ := h.done hi
  rw [hnum, frmAt_X hi, e2, hr, if_pos rfl] at hf
  rw [e1, hr, if_pos rfl]
  rcases e6 with e6 | ⟨w, e6, _⟩
  ·exact e6.2
  ·omega
 ·intro i w hi hr hf
  obtain ⟨l1, c, _, _, _, _, v, lw, e1, e2, _, _, _, e6⟩ := h.done hi
  rw [hnum, frmAt_X hi, e2, hr, if_pos rfl] at hf
  rw [e1, hr, if_pos rfl]
  rcases e6 with e6 | ⟨w', e6, e7⟩
  ·omega
  ·have : w' = w := by omega
   rw [e7, this]
 ·intro i hi hk
  obtain ⟨l1, c, _, _, _, _, v, lw, _, _, _, e4, _⟩ := h.done hi
  rw [e4, nwO, if_pos hk]
 ·intro i hi hk
  obtain ⟨l1, c, _, _, _, _, v, lw, e1, _, _, e4, _⟩ := h.done hi
  have hr : (evAt p i).reads = true := by simp [Ev.reads, hk]
  rw [e4, nwO, if_neg (by omega), if_pos hk, e1, hr, if_pos rfl]
 ·intro i hi hk
  obtain ⟨l1, c, _, _, _, _, v, lw, _, _, _, e4, _⟩ := h.done hi
  rw [e4, nwO, if_neg (by omega), if_neg (by omega)]

/-- The words of the execution are those of the run. -/
theorem run_same (h : IsRun p tr) (hp : POk p) {i : Nat} (hi : i < p.length) : (wordsP p (execX p tr).frm).R i = (runX p tr).R i ∧ (1 ≤ (evAt p i).op.kind → (evAt p i).op.kind ≤ 4 → (wordsP p (execX p tr).frm).W i = (runX p tr).W i) := by
 have hs := run_shape h hp
 have hac : RfOk p (execX p tr) := Round.rfOk (run_cons h hp).round
 refine Words.uniq hs.fromOk hs.srcOk hac ?_ (hs.words hac) (run_words h hp) i hi
 intro b hb
 rcases Classical.em (∃ w : Nat, frmAt (execX p tr) b = w) with ⟨w, hw⟩ | hn
 ·have := (run_rf h ⟨hb, hw⟩).2.1
  show frmAt (execX p tr) b < _
  omega
 ·show frmAt (execX p tr) b < _
  apply Classical.byContradiction
  intro hc
  exact hn ⟨(frmAt (execX p tr) b).toNat, by omega⟩

/-- A run of all events is an execution. -/
theorem run_exec (h : IsRun p tr) (hp : POk p) (hm : Mono p) : execX p tr ∈ execsP p := by
 refine (exec_iff hp hm).2 ⟨run_shape h hp, ?_, run_cons h hp⟩
 intro i hi
 have hR := (run_same h hp hi).1
 obtain ⟨l1, c, _, _, _, _, v, lw, e1, _, e3, _⟩ := h.done hi
 constructor
 ·intro hk
  have hr : (evAt p i).reads = true := by simp [Ev.reads, hk]
  rw [hR, dnAt_X hi, e3, e1, hr, if_pos rfl, wrO, if_neg (by omega), if_pos hk, decide_eq_true_eq]
 ·intro hk hd
  have hr : (evAt p i).reads = true := by simp [Ev.reads, hk]
  rw [dnAt_X hi, e3, wrO, if_neg (by omega), if_neg (by omega), if_pos hk] at hd
  simp only [Bool.and_eq_true, decide_eq_true_eq] at hd
  rw [hR, e1, hr, if_pos rfl]; exact hd.1

end Go.EV

namespace Go.EV
open Go.Proofs

variable {p : List Ev} {tr : List (Nat × Bool)}

/-- What the events of a list read. -/
def rdsX (p : List Ev) (s : Sx) (l : List Nat) : List Int := l.flatMap fun i => if (evAt p i).reads then [s.R i] else []

theorem outReads_flat (w : Wd) : ∀ n, outReads p w n = (List.range n).flatMap fun i => if (evAt p i).reads then [w.R i] else []
 | 0 => rfl
 | n + 1 => by rw [outReads, outReads_flat w n, List.range_succ, List.flatMap_append]; simp [Wd.R]

theorem flatMap_congrX {α β : Type} {l : List α} {f g : α → List β} (h : ∀ x ∈ l, f x = g x) : l.flatMap f = l.flatMap g := by
 induction l with
 | nil => rfl
 | cons a t ih => rw [List.flatMap_cons, List.flatMap_cons, h a (by simp), ih fun x hx => h x (by simp [hx])]

theorem run_lastOf (h : IsRun p tr) (hp : POk p) {k : Int} (hk : 0 ≤ k ∧ k < 3) : lastOf (wordsP p (execX p tr).frm) (toI (ordX p tr k)) = (runX p tr).wd k := by
 obtain ⟨q1, q2⟩ := runX_last (p := p) h.nodup k
 rw [show (List.map Prod.fst tr).filter (wrX p (runX p tr) k) = ordX p tr k from rfl] at q1
 rw [lastOf, toI_len]
 by_cases h0 : (ordX p tr k).length = 0
 ·rw [if_pos h0]
  rw [List.length_eq_zero_iff.1 h0] at q1
  rcases q2 with ⟨_, q2⟩ | ⟨w, q2, _⟩
  ·exact q2.symm
  ·rw [q1] at q2; simp [lastW] at q2
 ·rw [if_neg h0]
  rw [numAt_toI (by omega), Int.toNat_natCast]
  have hg : lastW (ordX p tr k) = ((ordX p tr k)[(ordX p tr k).length - 1]'(by omega) : Nat) := by
   unfold lastW
   rw [List.getLast?_eq_getElem?, List.getElem?_eq_getElem (by omega)]
  have hm := (mem_ordX h).1 (List.getElem_mem (l := ordX p tr k) (n := (ordX p tr k).length - 1) (by omega))
  generalize (ordX p tr k)[(ordX p tr k).length - 1]'(by omega) = i at *
  rw [hg] at q1
  rcases q2 with ⟨q2, _⟩ | ⟨w, q2, q3⟩
  ·omega
  ·have : w = i := by omega
   subst this
   obtain ⟨l1, c, _, _, _, _, v, lw, _, _, e3, _⟩ := h.done hm.1
   have hd := hm.2.1
   rw [e3] at hd
   obtain ⟨k1, k4⟩ := wrO_kind hd
   rw [q3, ← (run_same h hp hm.1).2 k1 k4]
   rfl

theorem run_outcome (h : IsRun p tr) (hp : POk p) : outcomeP p (execX p tr) = rdsX p (runX p tr) (List.range p.length) ++ [(runX p tr).wd 0, (runX p tr).wd 1, (runX p tr).wd 2] := by
 rw [outcomeP, outReads_flat]
 congr 1
 ·apply flatMap_congrX
  intro i hi
  rw [(run_same h hp (List.mem_range.1 hi)).1]
 ·simp only [execX, List.map_cons, List.map_nil]
  rw [← run_lastOf h hp (k := 0) (by decide), ← run_lastOf h hp (k := 1) (by decide), ← run_lastOf h hp (k := 2) (by decide)]
  rfl

theorem run_out (h : IsRun p tr) (hp : POk p) (hm : Mono p) : IsOut p (rdsX p (runX p tr) (List.range p.length) ++ [(runX p tr).wd 0, (runX p tr).wd 1, (runX p tr).wd 2]) :=
 ⟨_, run_exec h hp hm, run_outcome h hp⟩

end Go.EV

namespace Go.EV
open Go.Proofs

variable {p : List Ev} {e : Exec} {T : List Nat}

/-- Events in an order, what is written as an execution says. -/
def trE (e : Exec) (T : List Nat) : List (Nat × Bool) := T.map fun i => (i, dnAt e.dn i)
theorem trE_fst : (trE e T).map Prod.fst = T := by
 rw [trE, List.map_map]
 exact List.map_id _
theorem trE_mem {i : Nat} {c : Bool} (h : (i, c) ∈ trE e T) : c = dnAt e.dn i := by
 obtain ⟨j, _, hj⟩ := List.mem_map.1 h
 cases hj; rfl

/-- All that an execution says goes up in an order. -/
structure Goes (p : List Ev) (e : Exec) (T : List Nat) : Prop where
 perm : T.Perm (List.range p.length)
 keep : T.Pairwise fun a b => (evAt p a).th = (evAt p b).th → a < b
 rf : ∀ a b, Rf e p.length a b → T.idxOf a < T.idxOf b
 co : ∀ l ∈ e.ord, ∀ a b, Co1 l a b → T.idxOf a < T.idxOf b
 fr : ∀ a b, Fr1 p e a b → T.idxOf a < T.idxOf b

theorem Goes.run (h : Goes p e T) : IsRun p (trE e T) := ⟨by rw [trE_fst]; exact h.perm, by rw [trE_fst]; exact h.keep⟩
theorem rk_trE {i : Nat} : rkX (trE e T) i = T.idxOf i := by rw [rkX, trE_fst]

/-- A writer has its place in the order of its location. -/
theorem Shape.place (hs : Shape p e) (hp : POk p) {i w : Nat} (hi : i < p.length) (hw : w < p.length) (hd : dnAt e.dn w = true) (hl : (evAt p w).op.loc = (evAt p i).op.loc) : ∃ j, j < (ordAt p e i).length ∧ numAt (ordAt p e i) j = w := by
 have hloc := hp.loc i hi
 have hk := hs.dn0 w hw hd
 have hm : (w : Int) ∈ writersI p e.dn ((evAt p i).op.loc.toNat : Nat) := mem_writersI.2 ⟨w, rfl, hw, by omega, hd, by rw [hl, Int.toNat_of_nonneg hloc.1]⟩
 have h2 := ((hs.ord (evAt p i).op.loc.toNat (by omega)).mem_iff).2 hm
 obtain ⟨j, h3, h4⟩ := mem_numAt.1 h2
 exact ⟨j, h3, h4⟩

theorem ordAt_mem (hs : Shape p e) (hp : POk p) {i : Nat} (hi : i < p.length) : ordAt p e i ∈ e.ord := by
 have hloc := hp.loc i hi
 have hk : (evAt p i).op.loc.toNat < e.ord.length := by rw [hs.ol]; omega
 rw [ordAt, List.getElem?_eq_getElem hk]
 exact List.getElem_mem hk

theorem lastW_some {l : List Nat} (h : l ≠ []) : ∃ u : Nat, lastW l = u ∧ u ∈ l := by
 rcases lastW_cases l with k | ⟨u, k⟩
 ·exact absurd (lastW_none.1 k) h
 ·exact ⟨u, k, lastW_mem k⟩

/-- Event by event the run does what the execution says. -/
theorem Goes.same (h : Goes p e T) (hp : POk p) (hs : Shape p e) (hwd : Worded p e) (hac : RfOk p e) : ∀ (n i : Nat), T.idxOf i = n → i < p.length →
  (runX p (trE e T)).frm i = frmAt e i ∧ (runX p (trE e T)).dn i = dnAt e.dn i ∧ (runX p (trE e T)).R i = (wordsP p e.frm).R i ∧ (1 ≤ (evAt p i).op.kind → (evAt p i).op.kind ≤ 4 → (runX p (trE e T)).W i = (wordsP p e.frm).W i) := by
 have hw := hs.words hac
 intro n
 induction n using Nat.strongRecOn with
 | _ n ih =>
 intro i hn hi
 have ihj : ∀ j, j < p.length → T.idxOf j < T.idxOf i → _ := fun j hj hlt => ih (T.idxOf j) (by omega) j rfl hj
 obtain ⟨l1, c, hic, e0, h4, h5, hpre, v, lw, e1, e2, e3, e4, e5, e6⟩ := h.run.doneC hi
 simp only [rk_trE] at e0 h4 h5
 have hc := trE_mem hic
 subst hc
 have hflt : l1.filter (wrX p (runX p (trE e T)) (evAt p i).op.loc) = l1.filter (fun j => dnAt e.dn j && decide ((evAt p j).op.loc = (evAt p i).op.loc)) := by
  apply List.filter_congr
  intro j hj
  obtain ⟨q1, q2⟩ := h4 j hj
  rw [wrX, (ihj j q2 q1).2.1]
 have hpl : (l1.filter (wrX p (runX p (trE e T)) (evAt p i).op.loc)).Pairwise fun a b => T.idxOf a < T.idxOf b := by
  have h6 := idx_asc h.run.nodup
  obtain ⟨l2, hl2⟩ := hpre
  rw [← hl2, List.pairwise_append] at h6
  refine (h6.1.filter _).imp fun k => ?_
  rw [hl2, trE_fst] at k; exact k
 rw [hflt] at e5 hpl
 have hin : ∀ j, j ∈ l1.filter (fun j => dnAt e.dn j && decide ((evAt p j).op.loc = (evAt p i).op.loc)) ↔ j < p.length ∧ T.idxOf j < T.idxOf i ∧ dnAt e.dn j = true ∧ (evAt p j).op.loc = (evAt p i).op.loc := by
  intro j
  simp only [List.mem_filter, Bool.and_eq_true, decide_eq_true_eq]
  exact ⟨fun ⟨a, b, c⟩ => ⟨(h4 j a).2, (h4 j a).1, b, c⟩, fun ⟨a, b, c, d⟩ => ⟨h5 j a b, c, d⟩⟩
 generalize l1.filter (fun j => dnAt e.dn j && decide ((evAt p j).op.loc = (evAt p i).op.loc)) = L at e5 hpl hin
 have hfrm : (evAt p i).reads = true → lw = frmAt e i := by
  intro hr
  rcases hs.src i hi hr with k | ⟨w, k, k2, k3, k4⟩
  ·rw [k, e5, lastW_none]
   apply Classical.byContradiction
   intro hne
   obtain ⟨u, _, hu⟩ := lastW_some hne
   obtain ⟨u1, u2, u3, u4⟩ := (hin u).1 hu
   obtain ⟨j, j1, j2⟩ := hs.place hp hi u1 u3 u4
   have := h.fr i u ⟨hi, hr, fun e9 => by subst e9; omega, j, j1, j2, .inl k⟩
   omega
  ·have hrf := h.rf w i ⟨hi, k⟩
   have hwL : w ∈ L := (hin w).2 ⟨k2, hrf, k3, k4⟩
   obtain ⟨u, hu1, hu⟩ := lastW_some (l := L) (fun e9 => by rw [e9] at hwL; cases hwL)
   have hmax := lastW_max hpl hu1 hwL
   obtain ⟨u1, u2, u3, u4⟩ := (hin u).1 hu
   obtain ⟨j, j1, j2⟩ := hs.place hp hi u1 u3 u4
   obtain ⟨m, m1, m2⟩ := hs.place hp hi k2 k3 k4
   rw [e5, hu1, k]
   rcases Nat.lt_trichotomy j m with q | q | q
   ·have := h.co _ (ordAt_mem hs hp hi) u w ⟨j, m, q, m1, j2, m2⟩
    omega
   ·subst q; omega
   ·have := h.fr i u ⟨hi, hr, fun e9 => by subst e9; omega, j, j1, j2, .inr ⟨m, q, by rw [m2, k]⟩⟩
    omega
 have hv : (evAt p i).reads = true → v = (wordsP p e.frm).R i := by
  intro hr
  have hf := hfrm hr
  rcases e6 with ⟨q1, q2⟩ | ⟨w, q1, q2⟩
  ·rw [q2]; exact (hw.init i hi hr (show frmAt e i = -1 by omega)).symm
  ·have hfw : frmAt e i = w := by omega
   rcases hs.src i hi hr with k | ⟨w', k, k2, k3, k4⟩
   ·omega
   ·have : w' = w := by omega
    subst this
    have hk := hs.dn0 w' k2 k3
    rw [q2, (ihj w' k2 (h.rf w' i ⟨hi, k⟩)).2.2.2 hk.1 hk.2]
    exact (hw.from_ i w' hi hr hfw).symm
 have hreads : (evAt p i).op.kind ≠ 1 → (evAt p i).op.kind ≠ 5 → (evAt p i).reads = true := fun a b => by simp [Ev.reads, a, b]
 refine ⟨?_, ?_, ?_, ?_⟩
 ·rw [e2]
  cases hr : (evAt p i).reads with
  | true => rw [if_pos rfl]; exact hfrm hr
  | false => rw [if_neg (by decide)]; exact (hs.out i hi hr).symm
 ·rw [e3]
  unfold wrO
  split
  ·rename_i k; exact (hs.dn1 i hi k).symm
  ·split
   ·rename_i k1 k
    rw [hv (hreads (by omega) (by omega))]
    have := (hwd i hi).1 k
    cases hd : dnAt e.dn i with
    | true => exact decide_eq_true (this.1 hd)
    | false => exact decide_eq_false fun hh => by have := this.2 hh; rw [hd] at this; cases this
   ·split
    ·rename_i k1 k3 k
     rw [hv (hreads (by omega) (by omega))]
     cases hd : dnAt e.dn i with
     | true => rw [decide_eq_true ((hwd i hi).2 k hd)]; rfl
     | false => simp
    ·rename_i k1 k3 k4
     cases hd : dnAt e.dn i with
     | true => have := hs.dn0 i hi hd; omega
     | false => rfl
 ·rw [e1]
  cases hr : (evAt p i).reads with
  | true => rw [if_pos rfl]; exact hv hr
  | false => rw [if_neg (by decide)]; exact (hw.out i hi hr).symm
 ·intro k1 k4
  rw [e4]
  unfold nwO
  split
  ·rename_i k; exact (hw.store i hi k).symm
  ·split
   ·rename_i k9 k; rw [hv (hreads (by omega) (by omega))]; exact (hw.add i hi k).symm
   ·rename_i k8 k9; exact (hw.cas i hi (by omega)).symm

end Go.EV

namespace Go.EV
open Go.Proofs

/-- What an event keeps of another one. -/
structure EvLe (a b : Ev) : Prop where
 th : b.th = a.th
 kind : b.op.kind = a.op.kind
 loc : b.op.loc = a.op.loc
 v : b.op.v = a.op.v
 w : b.op.w = a.op.w
 rel : a.rel = true → b.rel = true
 acq : a.acq = true → b.acq = true
 strong : a.strong = true → b.strong = true
theorem EvLe.refl (a : Ev) : EvLe a a := ⟨rfl, rfl, rfl, rfl, rfl, id, id, id⟩

def j1 (o o' : OpV) (b : Nat) : Nat := if (expOp o).length = (expOp o').length then b else 0
inductive F2 {α β : Type} (R : α → β → Prop) : List α → List β → Prop
 | nil : F2 R [] []
 | cons {a : α} {b : β} {l : List α} {m : List β} (h : R a b) (t : F2 R l m) : F2 R (a :: l) (b :: m)
end Go.EV

namespace Go.EV
open Go.Proofs

/-- Where the events of threads lie. -/
structure Lay (p : List Ev) (q : List (List OpV)) (base : Nat → Nat) : Prop where
 at_ : ∀ t j o, (q[t]?.getD [])[j]? = some o → base t + j < p.length ∧ evAt p (base t + j) = ⟨o, t⟩
 all : ∀ i, i < p.length → ∃ t j o, (q[t]?.getD [])[j]? = some o ∧ i = base t + j

theorem lay_go (q : List (List OpV)) : Lay (evsGo 0 q) q (fun t => (evsGo 0 (q.take t)).length) := by
 constructor
 ·intro t j o h
  by_cases ht : t < q.length
  ·rw [List.getElem?_eq_getElem ht, Option.getD_some] at h
   obtain ⟨hj, ho⟩ := List.getElem?_eq_some_iff.1 h
   have hq : q = q.take t ++ q[t] :: q.drop (t + 1) := by simp
   have hl : (q.take t).length = t := by simp; omega
   have e : evsGo 0 q = evsGo 0 (q.take t) ++ (q[t].map (fun o => (⟨o, ((t : Nat) : Int)⟩ : Ev)) ++ evsGo (t + 1) (q.drop (t + 1))) := by
    conv => lhs; rw [hq]
    rw [evsGo_append, hl, Nat.zero_add]; rfl
   have hlt : (evsGo 0 (q.take t)).length + j < (evsGo 0 q).length := by rw [e, List.length_append, List.length_append, List.length_map]; omega
   refine ⟨hlt, ?_⟩
   rw [evAt, e, List.getElem?_append_right (by simp), Nat.add_sub_cancel_left, List.getElem?_append_left (by simpa using hj), List.getElem?_map, h]
   rfl
  ·rw [show q[t]? = none from List.getElem?_eq_none (by omega)] at h; simp at h
 ·have key : ∀ (n : Nat) (q : List (List OpV)) (i : Nat), i < (evsGo n q).length → ∃ t j o, (q[t]?.getD [])[j]? = some o ∧ i = (evsGo n (q.take t)).length + j := by
   intro n q
   induction q generalizing n with
   | nil => intro i hi; simp [evsGo] at hi
   | cons a q ih =>
    intro i hi
    by_cases h : i < a.length
    ·exact ⟨0, i, a[i], by simp [h], by simp [evsGo]⟩
    ·simp only [evsGo, List.length_append, List.length_map] at hi
     obtain ⟨t, j, o, h1, h2⟩ := ih (n + 1) (i - a.length) (by omega)
     exact ⟨t + 1, j, o, by simpa using h1, by simp [evsGo]; omega⟩
  exact key 0 q

/-- What is told of a run by how far each thread is, the words, and what was read. -/
structure RelE (p : List Ev) (q : List (List OpV)) (base : Nat → Nat) (tr : List (Nat × Bool)) (y : Nat → Nat) (wd : Int → Int) (rd : Nat → List Int) : Prop where
 th : ∀ t : Nat, (tr.map Prod.fst).filter (fun i => decide ((evAt p i).th = t)) = (List.range (y t)).map (base t + ·)
 mem : ∀ i ∈ tr.map Prod.fst, i < p.length
 wd : ∀ k, 0 ≤ k → k < 3 → (runX p tr).wd k = wd k
 rd : ∀ t, rdsX p (runX p tr) ((List.range (y t)).map (base t + ·)) = rd t

variable {p : List Ev} {q : List (List OpV)} {base : Nat → Nat}

theorem RelE.nil : RelE p q base [] (fun _ => 0) (fun _ => 0) (fun _ => []) := ⟨fun _ => rfl, fun _ h => absurd h (by simp), fun _ _ _ => rfl, fun _ => rfl⟩

theorem RelE.step {tr : List (Nat × Bool)} {y : Nat → Nat} {wd : Int → Int} {rd : Nat → List Int} (h : RelE p q base tr y wd rd) (hl : Lay p q base) (hp : POk p) {t : Nat} {o : OpV} (ho : (q[t]?.getD [])[y t]? = some o) (c : Bool) :
  RelE p q base (tr ++ [(base t + y t, c)]) (upN y t (y t + 1)) (if wrO o (wd o.loc) c then upI wd o.loc (nwO o (wd o.loc)) else wd) (upN rd t (rd t ++ if o.kind ≠ 1 ∧ o.kind ≠ 5 then [wd o.loc] else [])) := by
 obtain ⟨hi, hev⟩ := hl.at_ t (y t) o ho
 have hloc := hp.loc _ hi
 rw [hev] at hloc
 have hwd := h.wd o.loc hloc.1 hloc.2
 have hnew : base t + y t ∉ tr.map Prod.fst := by
  intro hm
  have : base t + y t ∈ (tr.map Prod.fst).filter (fun i => decide ((evAt p i).th = t)) := List.mem_filter.2 ⟨hm, by rw [hev]; simp⟩
  rw [h.th t] at this
  obtain ⟨j, hj, e⟩ := List.mem_map.1 this
  rw [List.mem_range] at hj
  omega
 have hrd : ∀ t', t' ≠ t ∨ True → rdsX p (runX p (tr ++ [(base t + y t, c)])) ((List.range (y t')).map (base t' + ·)) = rd t' := by
  intro t' _
  rw [← h.rd t']
  unfold rdsX
  apply flatMap_congrX
  intro x hx
  rw [← h.th t'] at hx
  have hne : x ≠ base t + y t := fun e => hnew (e ▸ (List.mem_filter.1 hx).1)
  rw [(runX_keep (p := p) (tr := tr) (x := (base t + y t, c)) hne).1]
 refine ⟨?_, ?_, ?_, ?_⟩
 ·intro t'
  rw [List.map_append, List.filter_append, h.th t']
  by_cases ht : t' = t
  ·subst ht
   rw [upN, if_pos rfl, List.range_succ, List.map_append]
   simp [hev]
  ·rw [upN, if_neg ht]
   have : ¬ ((t : Nat) : Int) = t' := by omega
   simp [hev, this]
 ·intro i hi'
  rw [List.map_append, List.mem_append] at hi'
  rcases hi' with hi' | hi'
  ·exact h.mem i hi'
  ·simp at hi'; rw [hi']; exact hi
 ·intro k hk0 hk3
  rw [runX_snoc]
  simp only [stepX, hev, hwd]
  split
  ·simp only [upI]; split
   ·rfl
   ·exact h.wd k hk0 hk3
  ·exact h.wd k hk0 hk3
 ·intro t'
  by_cases ht : t' = t
  ·subst ht
   rw [upN, if_pos rfl, upN, if_pos rfl, List.range_succ, List.map_append]
   have happ : ∀ (s : Sx) (l m : List Nat), rdsX p s (l ++ m) = rdsX p s l ++ rdsX p s m := fun s l m => by simp [rdsX, List.flatMap_append]
   rw [happ, hrd t' (.inr trivial)]
   congr 1
   simp only [rdsX, List.map_cons, List.map_nil, List.flatMap_cons, List.flatMap_nil, List.append_nil]
   rw [runX_snoc]
   simp only [stepX, hev, hwd, upN, if_pos]
   by_cases hr : o.kind ≠ 1 ∧ o.kind ≠ 5
   ·rw [if_pos hr]; simp [Ev.reads, hr.1, hr.2]
   ·rw [if_neg hr]
    have : (Ev.reads ⟨o, t'⟩) = false := by
     simp only [Ev.reads, Bool.and_eq_false_iff, decide_eq_false_iff_not]
     by_cases h1 : o.kind ≠ 1
     ·exact .inr fun h5 => hr ⟨h1, h5⟩
     ·exact .inl h1
    simp [this]
  ·rw [upN, if_neg ht, upN, if_neg ht]; exact hrd t' (.inl ht)

theorem pw_filter {T : List Nat} {th : Nat → Int} (h : ∀ x ∈ T, (T.filter fun i => decide (th i = th x)).Pairwise (· < ·)) : T.Pairwise fun a b => th a = th b → a < b := by
 rw [List.pairwise_iff_forall_sublist]
 intro a b hs hab
 have ha : a ∈ T := hs.subset (by simp)
 have h1 := h a ha
 have h2 : [a, b].Sublist (T.filter fun i => decide (th i = th a)) := by
  have := hs.filter (fun i => decide (th i = th a))
  simpa [hab] using this
 exact (List.pairwise_iff_forall_sublist.1 h1) h2

/-- When all is done it is a run of all events. -/
theorem RelE.run {tr : List (Nat × Bool)} {y : Nat → Nat} {wd : Int → Int} {rd : Nat → List Int} (h : RelE p q base tr y wd rd) (hl : Lay p q base) (hy : ∀ t, y t = (q[t]?.getD []).length) : IsRun p tr := by
 have hkeep : (tr.map Prod.fst).Pairwise fun a b => (evAt p a).th = (evAt p b).th → a < b := by
  refine pw_filter (th := fun i => (evAt p i).th) fun x hx => ?_
  obtain ⟨t, j, o, h1, rfl⟩ := hl.all x (h.mem x hx)
  have e := (hl.at_ t j o h1).2
  simp only [e]
  rw [h.th t, List.pairwise_map]
  exact List.pairwise_lt_range.imp fun hab => by omega
 refine ⟨?_, hkeep⟩
 refine (List.perm_ext_iff_of_nodup ?_ List.nodup_range).2 fun i => ?_
 ·exact hkeep.imp fun hab e => by subst e; exact Nat.lt_irrefl _ (hab rfl)
 ·rw [List.mem_range]
  refine ⟨h.mem i, fun hi => ?_⟩
  obtain ⟨t, j, o, h1, rfl⟩ := hl.all i hi
  have : base t + j ∈ (tr.map Prod.fst).filter (fun i => decide ((evAt p i).th = t)) := by
   rw [h.th t, hy t]
   exact List.mem_map.2 ⟨j, List.mem_range.2 (List.getElem?_eq_some_iff.1 h1).1, rfl⟩
  exact (List.mem_filter.1 this).1

end Go.EV

namespace Go.EV
open Go.Proofs

def opAt (l : List OpV) (i : Nat) : OpV := l[i]?.getD ⟨0, 0, 0, 0, 0⟩
/-! ### What is read, thread by thread -/
theorem range_add' (a b : Nat) : List.range (a + b) = List.range a ++ (List.range b).map (a + ·) := by
 induction b with
 | zero => simp
 | succ b ih => rw [← Nat.add_assoc, List.range_succ, ih, List.range_succ, List.map_append, List.append_assoc]; rfl
/-! ### Programs whose threads stand in the opposite order -/
end Go.EV

namespace Go.EV
open Go.Proofs

/-- A point of an interleaving. -/
structure Mem where
 w0 : Int
 w1 : Int
 w2 : Int
 n0 : Nat
 n1 : Nat
 n2 : Nat
 r0 : List Int
 r1 : List Int
 r2 : List Int

def Mem.wd (m : Mem) (k : Int) : Int := if k = 0 then m.w0 else if k = 1 then m.w1 else m.w2
def Mem.nx (m : Mem) (t : Nat) : Nat := if t = 0 then m.n0 else if t = 1 then m.n1 else m.n2
def Mem.rd (m : Mem) (t : Nat) : List Int := if t = 0 then m.r0 else if t = 1 then m.r1 else m.r2
def Mem.setW (m : Mem) (k v : Int) : Mem := if k = 0 then { m with w0 := v } else if k = 1 then { m with w1 := v } else { m with w2 := v }
def Mem.bump (m : Mem) (t : Nat) : Mem := if t = 0 then { m with n0 := m.n0 + 1 } else if t = 1 then { m with n1 := m.n1 + 1 } else { m with n2 := m.n2 + 1 }
def Mem.addR (m : Mem) (t : Nat) (v : Int) : Mem := if t = 0 then { m with r0 := m.r0 ++ [v] } else if t = 1 then { m with r1 := m.r1 ++ [v] } else { m with r2 := m.r2 ++ [v] }
def Mem.out (m : Mem) : List Int := m.r0 ++ m.r1 ++ m.r2 ++ [m.w0, m.w1, m.w2]
def mem0 : Mem := ⟨0, 0, 0, 0, 0, 0, [], [], []⟩

section
variable {m : Mem} {t s : Nat} {k j v : Int}
theorem wd_bump : (m.bump t).wd k = m.wd k := by unfold Mem.bump; split <;> (try split) <;> rfl
theorem rd_bump : (m.bump t).rd s = m.rd s := by unfold Mem.bump; split <;> (try split) <;> rfl
theorem nx_bump (ht : t < 3) (hs : s < 3) : (m.bump t).nx s = if s = t then m.nx s + 1 else m.nx s := by
 match t, s, ht, hs with
 | 0, 0, _, _ => rfl
 | 0, 1, _, _ => rfl
 | 0, 2, _, _ => rfl
 | 1, 0, _, _ => rfl
 | 1, 1, _, _ => rfl
 | 1, 2, _, _ => rfl
 | 2, 0, _, _ => rfl
 | 2, 1, _, _ => rfl
 | 2, 2, _, _ => rfl
theorem wd_addR : (m.addR t v).wd k = m.wd k := by unfold Mem.addR; split <;> (try split) <;> rfl
theorem nx_addR : (m.addR t v).nx s = m.nx s := by unfold Mem.addR; split <;> (try split) <;> rfl
theorem rd_addR (ht : t < 3) (hs : s < 3) : (m.addR t v).rd s = if s = t then m.rd s ++ [v] else m.rd s := by
 match t, s, ht, hs with
 | 0, 0, _, _ => rfl
 | 0, 1, _, _ => rfl
 | 0, 2, _, _ => rfl
 | 1, 0, _, _ => rfl
 | 1, 1, _, _ => rfl
 | 1, 2, _, _ => rfl
 | 2, 0, _, _ => rfl
 | 2, 1, _, _ => rfl
 | 2, 2, _, _ => rfl
theorem nx_setW : (m.setW k v).nx s = m.nx s := by unfold Mem.setW; split <;> (try split) <;> rfl
theorem rd_setW : (m.setW k v).rd s = m.rd s := by unfold Mem.setW; split <;> (try split) <;> rfl
theorem wd_setW (hk : 0 ≤ k ∧ k < 3) (hj : 0 ≤ j ∧ j < 3) : (m.setW k v).wd j = if j = k then v else m.wd j := by
 obtain rfl | rfl | rfl : k = 0 ∨ k = 1 ∨ k = 2 := by omega
 all_goals
  obtain rfl | rfl | rfl : j = 0 ∨ j = 1 ∨ j = 2 := by omega
  all_goals rfl
end

/-- What can come of the next operation of a thread. -/
def goesP (m0 : Mem) (t : Nat) (o : OpV) : List Mem :=
 if accessP o = false then [m0.bump t] else
 let old := m0.wd o.loc
 let m := if o.kind ≠ 1 ∧ o.kind ≠ 5 then (m0.bump t).addR t old else m0.bump t
 if o.kind = 1 then [m.setW o.loc o.v] else if o.kind = 2 then [m.setW o.loc (IntKind.i64.wrap (old + o.v))] else
 if (o.kind = 3 ∨ o.kind = 4) ∧ old = o.v then (if o.kind = 4 then [m, m.setW o.loc o.w] else [m.setW o.loc o.w]) else [m]

theorem goes_mem {m m' : Mem} {t : Nat} {o : OpV} (ht : t < 3) (hk : 0 ≤ o.kind ∧ o.kind ≤ 5) (hl : 0 ≤ o.loc ∧ o.loc < 3) (h : m' ∈ goesP m t o) :
  ∃ c, (∀ s, s < 3 → m'.nx s = if s = t then m.nx s + 1 else m.nx s) ∧ (∀ k, 0 ≤ k → k < 3 → m'.wd k = (if wrO o (m.wd o.loc) c then upI m.wd o.loc (nwO o (m.wd o.loc)) else m.wd) k) ∧
   (∀ s, s < 3 → m'.rd s = upN m.rd t (m.rd t ++ if o.kind ≠ 1 ∧ o.kind ≠ 5 then [m.wd o.loc] else []) s) := by
 have hrd0 : ∀ s, s < 3 → (m.bump t).rd s = upN m.rd t (m.rd t ++ []) s := by
  intro s _
  rw [rd_bump, List.append_nil, upN]; split
  ·rename_i e; rw [e]
  ·rfl
 have hrd1 : ∀ v s, s < 3 → ((m.bump t).addR t v).rd s = upN m.rd t (m.rd t ++ [v]) s := by
  intro v s hs
  rw [rd_addR ht hs, rd_bump, upN]; split
  ·rename_i e; rw [e]
  ·rfl
 have hset : ∀ (m1 : Mem) (v : Int), (∀ k, m1.wd k = m.wd k) → ∀ k, 0 ≤ k → k < 3 → (m1.setW o.loc v).wd k = upI m.wd o.loc v k := by
  intro m1 v h1 k h0 h3
  rw [wd_setW hl ⟨h0, h3⟩, upI]; split
  ·rfl
  ·exact h1 k
 have hb1 : ∀ v k, ((m.bump t).addR t v).wd k = m.wd k := fun v k => by rw [wd_addR, wd_bump]
 have hnx : ∀ s, s < 3 → (m.bump t).nx s = if s = t then m.nx s + 1 else m.nx s := fun s hs => nx_bump ht hs
 obtain e | e | e | e | e | e : o.kind = 0 ∨ o.kind = 1 ∨ o.kind = 2 ∨ o.kind = 3 ∨ o.kind = 4 ∨ o.kind = 5 := by omega
 ·simp [goesP, accessP, e] at h
  subst h
  exact ⟨true, fun s hs => by rw [nx_addR]; exact hnx s hs, fun k _ _ => by simp [wrO, e, hb1], fun s hs => by rw [hrd1 _ s hs]; simp [e]⟩
 ·simp [goesP, accessP, e] at h
  subst h
  exact ⟨true, fun s hs => by rw [nx_setW]; exact hnx s hs, fun k h0 h3 => by rw [hset _ _ (fun k => wd_bump) k h0 h3]; simp [wrO, nwO, e], fun s hs => by rw [rd_setW, hrd0 s hs]; simp [e]⟩
 ·simp [goesP, accessP, e] at h
  subst h
  exact ⟨true, fun s hs => by rw [nx_setW, nx_addR]; exact hnx s hs, fun k h0 h3 => by rw [hset _ _ (hb1 _) k h0 h3]; simp [wrO, nwO, e], fun s hs => by rw [rd_setW, hrd1 _ s hs]; simp [e]⟩
 ·by_cases hv : m.wd o.loc = o.v
  ·simp [goesP, accessP, e, hv] at h
   subst h
   exact ⟨true, fun s hs => by rw [nx_setW, nx_addR]; exact hnx s hs, fun k h0 h3 => by rw [hset _ _ (hb1 _) k h0 h3]; simp [wrO, nwO, e, hv], fun s hs => by rw [rd_setW, hrd1 _ s hs]; simp [e, hv]⟩
  ·simp [goesP, accessP, e, hv] at h
   subst h
   exact ⟨true, fun s hs => by rw [nx_addR]; exact hnx s hs, fun k h0 h3 => by simp [wrO, e, hb1, hv], fun s hs => by rw [hrd1 _ s hs]; simp [e]⟩
 ·by_cases hv : m.wd o.loc = o.v
  ·simp [goesP, accessP, e, hv] at h
   rcases h with h | h
   ·subst h
    exact ⟨false, fun s hs => by rw [nx_addR]; exact hnx s hs, fun k h0 h3 => by simp [wrO, e, hb1], fun s hs => by rw [hrd1 _ s hs]; simp [e, hv]⟩
   ·subst h
    exact ⟨true, fun s hs => by rw [nx_setW, nx_addR]; exact hnx s hs, fun k h0 h3 => by rw [hset _ _ (hb1 _) k h0 h3]; simp [wrO, nwO, e, hv], fun s hs => by rw [rd_setW, hrd1 _ s hs]; simp [e, hv]⟩
  ·simp [goesP, accessP, e, hv] at h
   subst h
   exact ⟨true, fun s hs => by rw [nx_addR]; exact hnx s hs, fun k h0 h3 => by simp [wrO, e, hb1, hv], fun s hs => by rw [hrd1 _ s hs]; simp [e]⟩
 ·simp [goesP, accessP, e] at h
  subst h
  exact ⟨true, hnx, fun k _ _ => by simp [wrO, e, wd_bump], fun s hs => by rw [hrd0 s hs]; simp [e]⟩

/-- The outcomes from a point on, thread by thread. -/
def threadsP (rec : Mem → List (List Int)) (m : Mem) : List (List OpV) → Nat → Bool → List (List Int)
 | [], _, over => if over then [m.out] else []
 | l :: ls, t, over => if m.nx t = l.length then threadsP rec m ls (t + 1) over else
  (goesP m t (opAt l (m.nx t))).flatMap rec ++ if accessP (opAt l (m.nx t)) then threadsP rec m ls (t + 1) false else []
def walkP (ts : List (List OpV)) : Nat → Mem → List (List Int)
 | 0, m => threadsP (fun _ => []) m ts 0 true
 | f + 1, m => threadsP (walkP ts f) m ts 0 true

/-- Interleavings, step by step. -/
inductive Il (ts : List (List OpV)) : Mem → List Int → Prop
 | over {m : Mem} (h : ∀ t, t < ts.length → m.nx t = (ts[t]?.getD []).length) : Il ts m m.out
 | step {m m' : Mem} {t : Nat} {o : OpV} {x : List Int} (ho : (ts[t]?.getD [])[m.nx t]? = some o) (hm : m' ∈ goesP m t o) (hx : Il ts m' x) : Il ts m x

end Go.EV

namespace Go.EV
open Go.Proofs

def thr (ts : List (List OpV)) (t : Nat) : List OpV := ts[t]?.getD []
def baseOf (ts : List (List OpV)) (t : Nat) : Nat := (evsGo 0 ((ts.map expT).take t)).length

theorem expT_append (a b : List OpV) : expT (a ++ b) = expT a ++ expT b := by simp [expT, List.flatMap_append]
theorem q_thr (ts : List (List OpV)) (t : Nat) : (ts.map expT)[t]?.getD [] = expT (thr ts t) := by
 rw [List.getElem?_map, thr]
 cases ts[t]? <;> rfl

theorem lay_ts (ts : List (List OpV)) : Lay (evsOf ts) (ts.map expT) (baseOf ts) := lay_go _

theorem exp_at {l : List OpV} {n : Nat} {o : OpV} (h : l[n]? = some o) {k : Nat} (hk : k < (expOp o).length) : (expT l)[(expT (l.take n)).length + k]? = (expOp o)[k]? ∧ (expT (l.take (n + 1))).length = (expT (l.take n)).length + (expOp o).length := by
 obtain ⟨hn, e⟩ := List.getElem?_eq_some_iff.1 h
 have h1 : l.take (n + 1) = l.take n ++ [o] := by rw [List.take_succ_eq_append_getElem hn, e]
 have h2 : expT (l.take (n + 1)) = expT (l.take n) ++ expOp o := by rw [h1, expT_append]; simp [expT]
 have h3 : expT l = expT (l.take n) ++ (expOp o ++ expT (l.drop (n + 1))) := by
  rw [← List.append_assoc, ← h2, ← expT_append, List.take_append_drop]
 constructor
 ·rw [h3, List.getElem?_append_right (by omega), Nat.add_sub_cancel_left, List.getElem?_append_left hk]
 ·rw [h2, List.length_append]

/-- A run goes with a point of an interleaving. -/
def RelM (ts : List (List OpV)) (tr : List (Nat × Bool)) (m : Mem) : Prop :=
 ∃ y wd rd, RelE (evsOf ts) (ts.map expT) (baseOf ts) tr y wd rd ∧ (∀ t, t < 3 → y t = (expT ((thr ts t).take (m.nx t))).length ∧ rd t = m.rd t) ∧ (∀ t, 3 ≤ t → y t = 0) ∧ ∀ k, 0 ≤ k → k < 3 → wd k = m.wd k

theorem relM_nil (ts : List (List OpV)) : RelM ts [] mem0 := by
 refine ⟨_, _, _, RelE.nil, fun t ht => ?_, fun _ _ => rfl, fun k _ _ => ?_⟩
 ·have h1 : mem0.nx t = 0 := by unfold Mem.nx mem0; split <;> (try split) <;> rfl
  have h2 : mem0.rd t = [] := by unfold Mem.rd mem0; split <;> (try split) <;> rfl
  rw [h1, h2]; exact ⟨rfl, rfl⟩
 ·unfold Mem.wd mem0; split <;> (try split) <;> rfl

theorem upN_same {α : Type} {f : Nat → α} {k : Nat} : upN f k (f k) = f := by
 funext j; unfold upN; split
 ·rename_i e; rw [e]
 ·rfl

/-- A fence moves nothing. -/
theorem RelE.fence {p : List Ev} {q : List (List OpV)} {base : Nat → Nat} {tr : List (Nat × Bool)} {y : Nat → Nat} {wd : Int → Int} {rd : Nat → List Int} (h : RelE p q base tr y wd rd) (hl : Lay p q base) (hp : POk p) {t : Nat} {o : OpV} (ho : (q[t]?.getD [])[y t]? = some o) (h5 : o.kind = 5) :
  RelE p q base (tr ++ [(base t + y t, true)]) (upN y t (y t + 1)) wd rd := by
 have h1 := h.step hl hp ho true
 have e1 : wrO o (wd o.loc) true = false := by simp [wrO, h5]
 have e2 : ¬ (o.kind ≠ 1 ∧ o.kind ≠ 5) := fun k => k.2 h5
 rw [if_neg (by rw [e1]; decide), if_neg e2, List.append_nil, upN_same] at h1
 exact h1

theorem upN_upN {α : Type} {f : Nat → α} {k : Nat} {a b : α} : upN (upN f k a) k b = upN f k b := by
 funext j; unfold upN; split <;> simp_all

theorem relM_step {ts : List (List OpV)} (hc : checkP ts = 0) {tr : List (Nat × Bool)} {m m' : Mem} (h : RelM ts tr m) {t : Nat} (ht : t < 3) {o : OpV} (ho : (thr ts t)[m.nx t]? = some o) (hm : m' ∈ goesP m t o) : ∃ tr', RelM ts tr' m' := by
 obtain ⟨y, wd, rd, hr, hy, hy3, hwd⟩ := h
 have hp := evs_pok hc
 have hl := lay_ts ts
 have hk : ∀ k, k < (expOp o).length → ((ts.map expT)[t]?.getD [])[y t + k]? = (expOp o)[k]? := by
  intro k hk
  rw [q_thr, (hy t ht).1]; exact (exp_at ho hk).1
 have hpos : 0 < (expOp o).length := by unfold expOp; split <;> simp
 have hlen := (exp_at ho hpos).2
 -- what the operation is
 have hfirst : ∀ k, k < (expOp o).length → ∃ e, (expOp o)[k]? = some e ∧ 0 ≤ e.loc ∧ e.loc < 3 ∧ 0 ≤ e.kind ∧ e.kind ≤ 5 := by
  intro k hk'
  refine ⟨(expOp o)[k], List.getElem?_eq_getElem hk', ?_⟩
  have h1 := hk k hk'
  rw [List.getElem?_eq_getElem hk'] at h1
  obtain ⟨h2, h3⟩ := hl.at_ t (y t + k) _ h1
  have h4 := hp.loc _ h2
  have h5 := evs_kind hc _ h2
  rw [h3] at h4 h5
  exact ⟨h4.1, h4.2, h5.1, h5.2⟩
 by_cases hx : accessP o = false ∨ o.ord ≠ 4
 ·have he : expOp o = [o] := by unfold expOp; rw [if_pos hx]
  obtain ⟨e, h1, h2, h3, h4, h5⟩ := hfirst 0 hpos
  have : e = o := by rw [he] at h1; simpa using h1.symm
  subst this
  obtain ⟨c, k1, k2, k3⟩ := goes_mem ht ⟨h4, h5⟩ ⟨h2, h3⟩ hm
  have hs := hr.step hl hp (by rw [← h1]; exact hk 0 hpos) c
  rw [hwd _ h2 h3, (hy t ht).2] at hs
  refine ⟨_, _, _, _, hs, ?_, ?_, ?_⟩
  ·intro s hs3
   rw [k1 s hs3, k3 s hs3]
   constructor
   ·unfold upN; split
    ·rename_i e1; subst e1; rw [(hy s hs3).1, hlen, he]; rfl
    ·exact (hy s hs3).1
   ·unfold upN; split
    ·rfl
    ·exact (hy s hs3).2
  ·intro s hs3
   unfold upN; rw [if_neg (by omega)]; exact hy3 s hs3
  ·intro k hk0 hk3
   rw [k2 k hk0 hk3]
   split
   ·unfold upI; split
    ·rfl
    ·exact hwd k hk0 hk3
   ·exact hwd k hk0 hk3
 ·have he : expOp o = [sfence, { o with ord := plainP o.kind o.ord }, sfence] := by unfold expOp; rw [if_neg hx]
  have hlen3 : (expOp o).length = 3 := by rw [he]; rfl
  obtain ⟨e, h1, h2, h3, h4, h5⟩ := hfirst 1 (by omega)
  have e1 : e = { o with ord := plainP o.kind o.ord } := by rw [he] at h1; simpa using h1.symm
  have hloc : 0 ≤ o.loc ∧ o.loc < 3 := by rw [e1] at h2 h3; exact ⟨h2, h3⟩
  obtain ⟨c, k1, k2, k3⟩ := goes_mem ht (by rw [e1] at h4 h5; exact ⟨h4, h5⟩) hloc hm
  have hs1 := hr.fence hl hp (o := sfence) (by have := hk 0 (by omega); rw [he] at this; exact this) rfl
  have hs2 := hs1.step hl hp (t := t) (o := { o with ord := plainP o.kind o.ord }) (by
   have := hk 1 (by omega); rw [he] at this
   rw [show upN y t (y t + 1) t = y t + 1 from by simp [upN]]; exact this) c
  have hs3 := hs2.fence hl hp (t := t) (o := sfence) (by
   have := hk 2 (by omega); rw [he] at this
   rw [upN_upN, show upN y t (upN y t (y t + 1) t + 1) t = y t + 2 from by simp [upN]]; exact this) rfl
  simp only [upN_upN] at hs3
  have ey : upN y t (y t + 1) t = y t + 1 := by simp [upN]
  rw [ey] at hs3
  have ey2 : upN y t (y t + 1 + 1) t = y t + 2 := by simp [upN]
  rw [ey2] at hs3
  have ew : wrO { o with ord := plainP o.kind o.ord } (wd o.loc) c = wrO o (wd o.loc) c := rfl
  have en : nwO { o with ord := plainP o.kind o.ord } (wd o.loc) = nwO o (wd o.loc) := rfl
  rw [ew, en, hwd _ hloc.1 hloc.2, (hy t ht).2] at hs3
  refine ⟨_, _, _, _, hs3, ?_, ?_, ?_⟩
  ·intro s hs9
   rw [k1 s hs9, k3 s hs9]
   constructor
   ·unfold upN; split
    ·rename_i e1; subst e1; rw [(hy s hs9).1, hlen, hlen3]
    ·exact (hy s hs9).1
   ·unfold upN; split
    ·rfl
    ·exact (hy s hs9).2
  ·intro s hs9
   unfold upN; rw [if_neg (by omega)]; exact hy3 s hs9
  ·intro k hk0 hk3
   rw [k2 k hk0 hk3]
   split
   ·unfold upI; split
    ·rfl
    ·exact hwd k hk0 hk3
   ·exact hwd k hk0 hk3

theorem base_succ (q : List (List OpV)) (t : Nat) : (evsGo 0 (q.take (t + 1))).length = (evsGo 0 (q.take t)).length + (q[t]?.getD []).length := by
 simp only [evsGo_len]
 by_cases ht : t < q.length
 ·rw [List.take_succ_eq_append_getElem ht, List.flatten_append, List.length_append, List.getElem?_eq_getElem ht]; simp
 ·rw [List.take_of_length_le (by omega), List.take_of_length_le (by omega), List.getElem?_eq_none (by omega)]; simp

theorem il_out {ts : List (List OpV)} (hc : checkP ts = 0) {m : Mem} {x : List Int} (h : Il ts m x) : ∀ {tr : List (Nat × Bool)}, RelM ts tr m → IsOut (evsOf ts) x := by
 have h3 := (checkP_small hc).2
 induction h with
 | @over m h =>
  intro tr ⟨y, wd, rd, hr, hy, hy3, hwd⟩
  have hp := evs_pok hc
  have hl := lay_ts ts
  have hyl : ∀ t, y t = ((ts.map expT)[t]?.getD []).length := by
   intro t
   rw [q_thr]
   by_cases ht : t < ts.length
   ·rw [(hy t (by omega)).1, h t ht]
    show (expT ((thr ts t).take (thr ts t).length)).length = _
    rw [List.take_length]
   ·have e : thr ts t = [] := by simp only [thr]; rw [List.getElem?_eq_none (by omega)]; rfl
    by_cases ht3 : t < 3
    ·rw [(hy t ht3).1, e]; simp
    ·rw [hy3 t (by omega), e]; rfl
  have hrun := hr.run hl hyl
  have ho := run_out hrun hp (evs_mono ts)
  have hb : ∀ t, baseOf ts (t + 1) = baseOf ts t + y t := fun t => by rw [hyl t]; exact base_succ _ t
  have hb0 : baseOf ts 0 = 0 := rfl
  have hn : (evsOf ts).length = baseOf ts 3 := by
   simp only [baseOf, evsOf]; rw [List.take_of_length_le (by simpa using h3)]
  have happ : ∀ (s : Sx) (l m : List Nat), rdsX (evsOf ts) s (l ++ m) = rdsX (evsOf ts) s l ++ rdsX (evsOf ts) s m := fun s l m => by simp [rdsX, List.flatMap_append]
  have hrng : List.range (evsOf ts).length = (List.range (y 0)).map (baseOf ts 0 + ·) ++ (List.range (y 1)).map (baseOf ts 1 + ·) ++ (List.range (y 2)).map (baseOf ts 2 + ·) := by
   rw [hn, hb 2, range_add', hb 1, range_add', hb 0, range_add', hb0]
   simp
  rw [hrng, happ, happ, hr.rd, hr.rd, hr.rd, (hy 0 (by omega)).2, (hy 1 (by omega)).2, (hy 2 (by omega)).2, hr.wd 0 (by omega) (by omega), hr.wd 1 (by omega) (by omega), hr.wd 2 (by omega) (by omega), hwd 0 (by omega) (by omega), hwd 1 (by omega) (by omega), hwd 2 (by omega) (by omega)] at ho
  exact ho
 | @step m m' t o x ho hm hx ih =>
  intro tr hr
  have ht : t < 3 := by
   apply Classical.byContradiction
   intro hn
   rw [List.getElem?_eq_none (by omega : ts.length ≤ t)] at ho
   simp at ho
  obtain ⟨tr', hr'⟩ := relM_step hc hr ht ho hm
  exact ih hr'

theorem threads_il {ts : List (List OpV)} {rec : Mem → List (List Int)} {m : Mem} (hrec : ∀ t o m' x, (ts[t]?.getD [])[m.nx t]? = some o → m' ∈ goesP m t o → x ∈ rec m' → Il ts m' x) (hle : ∀ t, t < ts.length → m.nx t ≤ (ts[t]?.getD []).length) :
  ∀ (ls : List (List OpV)) (t : Nat) (over : Bool), ls = ts.drop t → (over = true → ∀ s, s < t → s < ts.length → m.nx s = (ts[s]?.getD []).length) → ∀ x ∈ threadsP rec m ls t over, Il ts m x
 | [], t, over, hls, hov, x, hx => by
  simp only [threadsP] at hx
  split at hx
  ·rename_i h
   simp only [List.mem_singleton] at hx
   subst hx
   have hlen : ts.length ≤ t := by
    have := congrArg List.length hls
    simp at this; omega
   exact .over fun s hs => hov h s (by omega) hs
  ·cases hx
 | l :: ls, t, over, hls, hov, x, hx => by
  have ht : t < ts.length := by
   apply Classical.byContradiction
   intro h; rw [List.drop_eq_nil_of_le (by omega)] at hls; cases hls
  rw [List.drop_eq_getElem_cons ht] at hls
  obtain ⟨rfl, rfl⟩ := List.cons.inj hls
  have hget : ts[t]?.getD [] = ts[t] := by rw [List.getElem?_eq_getElem ht]; rfl
  have hlt := hle t ht
  rw [hget] at hlt
  simp only [threadsP] at hx
  split at hx
  ·rename_i h
   refine threads_il hrec hle _ (t + 1) over rfl (fun h1 s hs hsl => ?_) x hx
   by_cases hst : s = t
   ·subst hst; rw [hget]; exact h
   ·exact hov h1 s (by omega) hsl
  ·rename_i h
   have hop : (ts[t]?.getD [])[m.nx t]? = some (opAt ts[t] (m.nx t)) := by
    rw [hget, opAt, List.getElem?_eq_getElem (by omega)]; rfl
   rcases List.mem_append.1 hx with hx | hx
   ·obtain ⟨m', hm', hx⟩ := List.mem_flatMap.1 hx
    exact .step hop hm' (hrec t _ m' x hop hm' hx)
   ·split at hx
    ·exact threads_il hrec hle _ (t + 1) false rfl (fun h1 => by cases h1) x hx
    ·cases hx

theorem nx_goes {m m' : Mem} {t : Nat} {o : OpV} (ht : t < 3) (h : m' ∈ goesP m t o) : ∀ s, s < 3 → m'.nx s = if s = t then m.nx s + 1 else m.nx s := by
 intro s hs
 have hb := nx_bump (m := m) ht hs
 have key : ∀ l : List Mem, (∀ x ∈ l, x.nx s = (m.bump t).nx s) → m' ∈ l → m'.nx s = if s = t then m.nx s + 1 else m.nx s := fun l hl hm => by rw [hl m' hm, hb]
 refine key _ ?_ h
 intro x hx
 unfold goesP at hx
 split at hx
 ·simp only [List.mem_singleton] at hx; rw [hx]
 ·dsimp only at hx
  generalize hm1 : (if o.kind ≠ 1 ∧ o.kind ≠ 5 then (m.bump t).addR t (m.wd o.loc) else m.bump t) = m1 at hx
  have h1 : m1.nx s = (m.bump t).nx s := by
   rw [← hm1]; split
   ·rw [nx_addR]
   ·rfl
  rw [← h1]
  split at hx
  ·simp only [List.mem_singleton] at hx; rw [hx, nx_setW]
  ·split at hx
   ·simp only [List.mem_singleton] at hx; rw [hx, nx_setW]
   ·split at hx
    ·split at hx
     ·simp only [List.mem_cons, List.not_mem_nil, or_false] at hx
      rcases hx with hx | hx
      ·rw [hx]
      ·rw [hx, nx_setW]
     ·simp only [List.mem_singleton] at hx; rw [hx, nx_setW]
    ·simp only [List.mem_singleton] at hx; rw [hx]

theorem walk_il {ts : List (List OpV)} (h3 : ts.length ≤ 3) : ∀ (f : Nat) (m : Mem), (∀ t, t < ts.length → m.nx t ≤ (ts[t]?.getD []).length) → ∀ x ∈ walkP ts f m, Il ts m x
 | 0, m, hle, x, hx => threads_il (rec := fun _ => []) (fun _ _ _ _ _ _ h => by cases h) hle ts 0 true rfl (fun _ s hs => absurd hs (by omega)) x hx
 | f + 1, m, hle, x, hx => by
  refine threads_il (rec := walkP ts f) (fun t o m' y ho hm hy => ?_) hle ts 0 true rfl (fun _ s hs => absurd hs (by omega)) x hx
  have ht : t < ts.length := by
   apply Classical.byContradiction
   intro hn
   rw [List.getElem?_eq_none (by omega : ts.length ≤ t)] at ho
   simp at ho
  refine walk_il h3 f m' (fun s hs => ?_) y hy
  rw [nx_goes (by omega) hm s (by omega)]
  split
  ·rename_i e; subst e
   exact (List.getElem?_eq_some_iff.1 ho).1
  ·exact hle s hs

/-- The outcomes of all interleavings are those of executions. -/
theorem walk_out {ts : List (List OpV)} (hc : checkP ts = 0) (f : Nat) : ∀ x ∈ walkP ts f mem0, IsOut (evsOf ts) x := fun x hx =>
 il_out hc (walk_il (checkP_small hc).2 f mem0 (fun t _ => by
  have h1 : mem0.nx t = 0 := by unfold Mem.nx mem0; split <;> (try split) <;> rfl
  rw [h1]; exact Nat.zero_le _) x hx) (relM_nil ts)

end Go.EV

namespace Go.EV
open Go.Proofs

theorem goes_len (m : Mem) (t : Nat) (o : OpV) : 1 ≤ (goesP m t o).length ∧ (goesP m t o).length ≤ 2 := by
 unfold goesP
 split
 ·simp
 ·dsimp only
  split
  ·simp
  ·split
   ·simp
   ·split
    ·split <;> simp
    ·simp

/-- How much is left to do. -/
def leftGo (m : Mem) : List (List OpV) → Nat → Nat
 | [], _ => 0
 | l :: ls, t => (l.length - m.nx t) + leftGo m ls (t + 1)
def leftP (ts : List (List OpV)) (m : Mem) : Nat := leftGo m ts 0

theorem left_zero {m : Mem} : ∀ (ls : List (List OpV)) (t : Nat), leftGo m ls t = 0 → ∀ s, s < ls.length → (ls[s]?.getD []).length ≤ m.nx (t + s)
 | [], t, _, s, hs => by simp at hs
 | l :: ls, t, h, s, hs => by
  simp only [leftGo] at h
  match s with
  | 0 => simp; omega
  | s + 1 =>
   have := left_zero (m := m) ls (t + 1) (by omega) s (by simpa using hs)
   simp only [List.getElem?_cons_succ]
   rw [show t + (s + 1) = t + 1 + s by omega]; exact this

theorem left_congr {m m' : Mem} : ∀ (ls : List (List OpV)) (t : Nat), (∀ s, t ≤ s → s < t + ls.length → m'.nx s = m.nx s) → leftGo m' ls t = leftGo m ls t
 | [], _, _ => rfl
 | l :: ls, t, h => by
  simp only [leftGo]
  rw [h t (Nat.le_refl _) (by simp), left_congr ls (t + 1) fun s h1 h2 => h s (by omega) (by simp only [List.length_cons]; omega)]

theorem left_step {m m' : Mem} {k : Nat} (hk : ∀ s, s < 3 → m'.nx s = if s = k then m.nx s + 1 else m.nx s) : ∀ (ls : List (List OpV)) (t : Nat), t + ls.length ≤ 3 → t ≤ k → k < t + ls.length → m.nx k < (ls[k - t]?.getD []).length → leftGo m' ls t + 1 = leftGo m ls t
 | [], t, _, h1, h2, _ => by simp at h2; omega
 | l :: ls, t, h3, h1, h2, hlt => by
  simp only [List.length_cons] at h2 h3
  simp only [leftGo]
  by_cases e : k = t
  ·subst e
   rw [Nat.sub_self] at hlt
   simp only [List.getElem?_cons_zero, Option.getD_some] at hlt
   rw [hk k (by omega), if_pos rfl, left_congr (m := m) (m' := m') ls (k + 1) fun s h4 h5 => by rw [hk s (by omega), if_neg (by omega)]]
   omega
  ·have := left_step hk ls (t + 1) (by omega) (by omega) (by omega) (by
    rw [show k - t = (k - (t + 1)) + 1 by omega] at hlt
    simpa using hlt)
   rw [hk t (by omega), if_neg (fun h => e h.symm)]
   omega

theorem threads_ne {rec : Mem → List (List Int)} {m : Mem} {ts : List (List OpV)} (hrec : ∀ t o m', (ts[t]?.getD [])[m.nx t]? = some o → m' ∈ goesP m t o → rec m' ≠ []) (hle : ∀ t, t < ts.length → m.nx t ≤ (ts[t]?.getD []).length) :
  ∀ (ls : List (List OpV)) (t : Nat), ls = ts.drop t → threadsP rec m ls t true ≠ []
 | [], t, _ => by simp [threadsP]
 | l :: ls, t, hls => by
  have ht : t < ts.length := by
   apply Classical.byContradiction
   intro h; rw [List.drop_eq_nil_of_le (by omega)] at hls; cases hls
  rw [List.drop_eq_getElem_cons ht] at hls
  obtain ⟨rfl, rfl⟩ := List.cons.inj hls
  have hget : ts[t]?.getD [] = ts[t] := by rw [List.getElem?_eq_getElem ht]; rfl
  have hlt := hle t ht
  rw [hget] at hlt
  simp only [threadsP]
  split
  ·exact threads_ne hrec hle _ (t + 1) rfl
  ·rename_i h
   have hop : (ts[t]?.getD [])[m.nx t]? = some (opAt ts[t] (m.nx t)) := by
    rw [hget, opAt, List.getElem?_eq_getElem (by omega)]; rfl
   intro e
   have e1 := (List.append_eq_nil_iff.1 e).1
   rw [List.flatMap_eq_nil_iff] at e1
   have h1 := (goes_len m t (opAt ts[t] (m.nx t))).1
   exact hrec t _ _ hop (List.getElem_mem (n := 0) (by omega)) (e1 _ (List.getElem_mem (n := 0) (by omega)))

theorem walk_ne {ts : List (List OpV)} (h3 : ts.length ≤ 3) : ∀ (f : Nat) (m : Mem), (∀ t, t < ts.length → m.nx t ≤ (ts[t]?.getD []).length) → leftP ts m ≤ f → walkP ts f m ≠ []
 | 0, m, hle, hl => by
  refine threads_ne (rec := fun _ => []) (fun t o m' ho _ => ?_) hle ts 0 rfl
  have ht : t < ts.length := by
   apply Classical.byContradiction
   intro hn
   rw [List.getElem?_eq_none (by omega : ts.length ≤ t)] at ho
   simp at ho
  have := left_zero (m := m) ts 0 (by unfold leftP at hl; omega) t ht
  have h5 := (List.getElem?_eq_some_iff.1 ho).1
  rw [Nat.zero_add] at this
  omega
 | f + 1, m, hle, hl => by
  refine threads_ne (rec := walkP ts f) (fun t o m' ho hm => ?_) hle ts 0 rfl
  have ht : t < ts.length := by
   apply Classical.byContradiction
   intro hn
   rw [List.getElem?_eq_none (by omega : ts.length ≤ t)] at ho
   simp at ho
  have h5 := (List.getElem?_eq_some_iff.1 ho).1
  have hnx := nx_goes (by omega) hm
  refine walk_ne h3 f m' (fun s hs => ?_) ?_
  ·rw [hnx s (by omega)]
   split
   ·rename_i e; subst e; exact h5
   ·exact hle s hs
  ·have := left_step (m := m) (m' := m') (k := t) hnx ts 0 (by omega) (by omega) (by omega) (by simpa using h5)
   unfold leftP at hl ⊢
   omega

end Go.EV

namespace Go.EV
open Go.Proofs

/-- A program has an outcome. -/
theorem some_out {ts : List (List OpV)} (hc : checkP ts = 0) : ∃ x, IsOut (evsOf ts) x := by
 have h1 : mem0.nx = fun _ => 0 := by funext t; unfold Mem.nx mem0; split <;> (try split) <;> rfl
 have := walk_ne (checkP_small hc).2 (leftP ts mem0) mem0 (fun t _ => by rw [h1]; exact Nat.zero_le _) (Nat.le_refl _)
 obtain ⟨x, hx⟩ := List.exists_mem_of_ne_nil _ this
 exact ⟨x, walk_out hc _ x hx⟩

section
variable {M : PHeap}

end
end Go.EV

namespace Go.EV
open Go.Proofs

/-- A number, cut down to less than n. -/
def modN (x : Int) (n : Nat) : Nat := (IntKind.i64.wrap ((IntKind.u64.wrap x).tmod (IntKind.u64.wrap n))).toNat
theorem u64_pos {n : Nat} (h0 : 0 < n) (hn : n < 1000000000) : (IntKind.u64.wrap (n : Int) = 0) = False := by
 have e : (2 : Int) ^ IntKind.u64.bits = 18446744073709551616 := rfl
 have e3 : IntKind.u64.signed = false := rfl
 have hn2 : IntKind.u64.wrap (n : Int) = n := by
  simp only [IntKind.wrap, e, e3, Bool.false_and]
  simp only [Bool.false_eq_true, if_false]
  omega
 rw [hn2]; exact eq_false (by omega)
theorem modN_eq (x : Int) {n : Nat} (h0 : 0 < n) (hn : n < 1000000000) : IntKind.i64.wrap ((IntKind.u64.wrap x).tmod (IntKind.u64.wrap n)) = (modN x n : Nat) ∧ modN x n < n := by
 have e : (2 : Int) ^ IntKind.u64.bits = 18446744073709551616 := rfl
 have e3 : IntKind.u64.signed = false := rfl
 have hp : 0 ≤ IntKind.u64.wrap x := by
  simp only [IntKind.wrap, e, e3, Bool.false_and]
  simp only [Bool.false_eq_true, if_false]
  exact Int.emod_nonneg _ (by decide)
 have hn2 : IntKind.u64.wrap (n : Int) = n := by
  simp only [IntKind.wrap, e, e3, Bool.false_and]
  simp only [Bool.false_eq_true, if_false]
  omega
 have h2 : 0 ≤ (IntKind.u64.wrap x).tmod n ∧ (IntKind.u64.wrap x).tmod n < n := by
  rw [Int.tmod_eq_emod_of_nonneg hp]; exact ⟨Int.emod_nonneg _ (by omega), Int.emod_lt_of_pos _ (by omega)⟩
 unfold modN
 rw [hn2, w64 (by omega) (by omega)]
 omega

/-- The threads' numbers of events. -/
def thsI (l : List Ev) : List Value := l.map fun e => vi e.th
section
variable {P : Program} {C : Cx P} {V : List Nat} {c : RItem} {k : List RItem} {ρ : Env} {M : PHeap} {G : Own}
theorem EV.via2 (Φ : Env → PHeap → Own → Prop) (h1 : ∀ k', (∀ ρ' M' G', Φ ρ' M' G' → EV C V k' ρ' M' G') → EV C V (c :: k') ρ M G) (h2 : ∀ ρ' M' G', Φ ρ' M' G' → EV C V k ρ' M' G') : EV C V (c :: k) ρ M G := h1 k h2
end

section
variable {M : PHeap}

set_option maxHeartbeats 8000000 in
theorem AxiomOrders_c (ts : List (List OpV)) (s : Value) (hs : SlSl M 5 encOp s ts) (hb : Sized ts) (pk x y z : Int) :
  Con Tryz.prog 8 #[.agg #[s, vi pk, vi x, vi y, vi z]] M [] fun u _ _ => u = vb true := by
 have hs0 := hs
 obtain ⟨ta, tc, vs, rfl, hl, hrd, hk⟩ := hs
 refine Con.enter Q1000_ok (args := [.agg #[.slice ta ts.length tc, vi pk, vi x, vi y, vi z]]) (by simp [Q1000]) fun w0 => ?_
 simp only [Q1000, argE]
 repeat' first
   | refine EV.seq ?_
   | (refine EV.reg ?_; (conv => (arg 2; whnf)); (refine nx ?_; try with_reducible exact ⟨⟩))
   | (with_reducible intro b; try (refine nx ?_; try with_reducible exact ⟨⟩))
   | fail
 obtain ⟨cb, rfl⟩ : ∃ x, x = b := ⟨_, rfl⟩
 refine EV.any (t := Q1000_1) [(cb, Cl 66 [.slice ta ts.length tc, vi pk, vi x, vi y, vi z])] (List.Sublist.refl _) ?_
 simp only [norm_cons, norm_nil, get_cons, get_nil, reduceIte, Nat.reduceEqDiff]
 repeat' first
   | ((first | refine wQ_op (by first | with_reducible assumption | rfl) (fun lq hlq => ?_) | refine wQ_nil (by first | with_reducible assumption | rfl) ?_ | fail); try (refine nz ?_; try with_reducible exact ⟨⟩))
   | refine wA_q (by first | with_reducible assumption | rfl) (fun lq tq hlq htq => ?_)
   | (refine wA_s (by first | with_reducible assumption | rfl) (fun tq htq => ?_) (fun tq htq => ?_) <;> try (refine nz ?_; try with_reducible exact ⟨⟩))
   | exact wA_no (by first | with_reducible assumption | rfl)
   | refine wA_fin (by first | with_reducible assumption | rfl) ?_
   | ((first | with_reducible intro b | refine xrA rfl ?_ | refine xiA rfl ?_ | refine xw ?_ | refine And.intro (PHeap.le_refl _) (And.intro (mem_of_sub ?_) ?_); focus ((repeat' first | exact List.Sublist.refl _ | exact List.nil_sublist _ | exact List.sublist_append_left _ _ | refine List.Sublist.cons_cons _ ?_ | refine List.Sublist.append_left ?_ _ | refine List.sublist_append_of_sublist_right ?_ | refine List.Sublist.cons _ ?_); done) | fail); try (refine nz ?_; try with_reducible exact ⟨⟩))
   | fail
 obtain ⟨pb, rfl⟩ : ∃ x, x = b := ⟨_, rfl⟩
 refine EV.keepS [] ?_
 generalize hR : M.add _ = N
 have hMN : M.le N := hR ▸ PHeap.le_add _ _
 have hpb : rd N pb 0 1 [.slice ta ts.length tc] := hR ▸ rd_at (T := 24) (cs := [.slice ta ts.length tc]) (by simp) rfl (by simp)
 clear hR
 have hsN := hs0.mono hMN
 repeat' first
   | refine EV.seq ?_
   | (refine EV.reg ?_; (conv => (arg 2; whnf)); (refine nx ?_; try with_reducible exact ⟨⟩))
   | fail
 refine Con.callS (G1 := []) awake_c ?_
 rintro v M1 G1 hM1 rfl
 have hpb1 := hpb.mono hM1
 simp only [wpS, wpA, wpQL, push_cast, Int.cast_ofNat_Int, reduceIte, Nat.reduceEqDiff, reduceCtorEq, Nat.reduceAdd, Nat.reduceSub, Nat.reduceMul, Int.reduceToNat, Nat.reduceLeDiff]
 repeat' first
   | refine EV.seq ?_
   | refine EV.skip ?_
   | (refine EV.reg ?_; (conv => (arg 2; whnf)); (refine nx ?_; try with_reducible exact ⟨⟩))
   | (refine EV.condX rfl (fun h => ?_) (fun h => ?_) <;> try exact dead h)
   | (refine Exists.intro _ (And.intro (rd_M (by assumption)) ?_); try (refine nx ?_; try with_reducible exact ⟨⟩))
   | fail
 refine Con.callS (G1 := []) (ax_Outcomes_c ts _ (hsN.mono hM1) hb) ?_
 rintro v M2 G2 hM2 (⟨hne, rfl⟩ | ⟨hck, s', outs, rfl, ho, hs'⟩)
 ·simp only [wpS, wpA, wpQL, push_cast, Int.cast_ofNat_Int, reduceIte, Nat.reduceEqDiff, reduceCtorEq, Nat.reduceAdd, Nat.reduceSub, Nat.reduceMul, Int.reduceToNat, Nat.reduceLeDiff]
  repeat' first
    | refine EV.seq ?_
    | (refine EV.reg ?_; (conv => (arg 2; whnf)); simp only [wpS, wpA, wpQL, push_cast, Int.cast_ofNat_Int, reduceIte, Nat.reduceEqDiff, reduceCtorEq, Nat.reduceAdd, Nat.reduceSub, Nat.reduceMul, Int.reduceToNat, Nat.reduceLeDiff, hne])
    | (refine EV.condX rfl (fun h => ?_) (fun h => ?_) <;> try exact dead h)
    | fail
  refine EV.ret Q1000_ok ?_
  simp only [wpS, wpA, wpQL, push_cast, Int.cast_ofNat_Int, reduceIte, Nat.reduceEqDiff, reduceCtorEq, Nat.reduceAdd, Nat.reduceSub, Nat.reduceMul, Int.reduceToNat, Nat.reduceLeDiff, Q1000]
  try simp
 have hp1 := evs_pok hck
 have hM12 := PHeap.le_trans hM1 hM2
 have hpb2 := hpb1.mono hM2
 have hfew := outs_few hp1 (evs_mono ts) (evs_few hck) ho.nodup (fun x hx => (outs_iff ho).1 hx)
 have hpos : 0 < outs.length := by
  obtain ⟨x, hx⟩ := some_out hck
  exact List.length_pos_of_mem ((outs_iff ho).2 hx)
 have hout2l : ∀ x ∈ outs, x.length ≤ 281474976710656 := fun x hx => by
  obtain ⟨r, a, b, c, rfl, hr⟩ := isOut_len hp1 ((outs_iff ho).1 hx)
  have := hp1.len
  rw [List.length_append]; simp; omega
 obtain ⟨ua, uc, us, rfl, hul, hurd, huk⟩ := hs'.sl
 have k1 : ((outs.length : Int) = 0) = False := eq_false (by omega)
 simp only [wpS, wpA, wpQL, push_cast, Int.cast_ofNat_Int, reduceIte, Nat.reduceEqDiff, reduceCtorEq, Nat.reduceAdd, Nat.reduceSub, Nat.reduceMul, Int.reduceToNat, Nat.reduceLeDiff]
 repeat' first
   | refine EV.seq ?_
   | refine EV.skip ?_
   | (refine EV.reg ?_; (conv => (arg 2; whnf)); simp only [wpS, wpA, wpQL, push_cast, Int.cast_ofNat_Int, reduceIte, Nat.reduceEqDiff, reduceCtorEq, Nat.reduceAdd, Nat.reduceSub, Nat.reduceMul, Int.reduceToNat, Nat.reduceLeDiff, k1])
   | (refine EV.condX rfl (fun h => ?_) (fun h => ?_) <;> try exact dead h)
   | fail
 obtain ⟨ub, uo, rfl, hat⟩ := SlSl.at hurd hul huk (by omega)
 obtain ⟨hq1, hq2⟩ := modN_eq pk hpos (by omega)
 have hq0 := u64_pos hpos (by omega)
 generalize modN pk outs.length = i at hq1 hq2
 obtain ⟨a', c', hr1, hr2⟩ := hat i hq2
 simp only [Nat.mul_one] at hr1
 have hxo := (outs_iff ho).1 (List.getElem_mem hq2)
 have hyl := hout2l _ (List.getElem_mem hq2)
 obtain ⟨y0, hy⟩ : ∃ y0, y0 = outs[i] := ⟨_, rfl⟩
 rw [← hy] at hr1 hr2 hxo hyl
 have hwt : Con Tryz.prog 17 #[.agg #[.slice ta ts.length tc], .slice a' y0.length c'] M2 [] fun u M' _ => ∃ (e : Exec) (fa : Option Addr) (fc : Nat) (da : Option Addr) (dc : Nat) (oa : Option Addr) (oc : Nat) (na : Option Addr) (nc : Nat), e ∈ execsP (evsOf ts) ∧ u = .tuple #[.agg #[.slice fa e.frm.length fc, .slice da e.dn.length dc, .slice oa e.ord.length oc, .slice na e.fen.length nc], vi 0] ∧ IsX M' (.agg #[.slice fa e.frm.length fc, .slice da e.dn.length dc, .slice oa e.ord.length oc, .slice na e.fen.length nc]) e := by
  refine (ax_Witness_c ts _ (hsN.mono hM12) hb y0 _ ⟨a', c', rfl, hr2⟩ hyl).mono fun u M' G' h => ?_
  rcases h with ⟨hne, _⟩ | ⟨_, ⟨e, ve, he, hoe, rfl, hX⟩ | ⟨hno, _⟩⟩
  ·exact absurd hck hne
  ·have hX0 := hX
   obtain ⟨f, d, o, n, rfl, ⟨fa, fc, rfl, _⟩, ⟨da, dc, rfl, _⟩, ⟨oa, oc, ovs, rfl, _, _, _⟩, ⟨na, nc, rfl, _⟩⟩ := hX
   exact ⟨e, fa, fc, da, dc, oa, oc, na, nc, he, rfl, hX0⟩
  ·exact absurd hxo hno
 refine EV.via2 (fun ρ' M' G' => G' = [] ∧ ∃ (xb : Nat) (e : Exec) (fa : Option Addr) (fc : Nat) (da : Option Addr) (dc : Nat) (oa : Option Addr) (oc : Nat) (na : Option Addr) (nc : Nat), M2.le M' ∧ e ∈ execsP (evsOf ts) ∧ IsX M' (.agg #[.slice fa e.frm.length fc, .slice da e.dn.length dc, .slice oa e.ord.length oc, .slice na e.fen.length nc]) e ∧ rd M' xb 0 4 [.slice fa e.frm.length fc, .slice da e.dn.length dc, .slice oa e.ord.length oc, .slice na e.fen.length nc] ∧ ρ' = [(3, pv pb 0), (5, vi x), (6, vi y), (7, vi z), (10, pv xb 0), (11, vi 0)]) (fun k' hk' => ?_) ?_
 ·skip
  refine EV.any (t := Q1000_9) [] (List.nil_sublist _) ?_
  simp only [norm_cons, norm_nil, get_cons, get_nil, reduceIte, Nat.reduceEqDiff]
  repeat' first
    | ((first | refine wQ_op (by first | with_reducible assumption | rfl) (fun lq hlq => ?_) | refine wQ_nil (by first | with_reducible assumption | rfl) ?_ | fail); try simp only [push_cast, Int.cast_ofNat_Int, reduceIte, Nat.reduceEqDiff, reduceCtorEq, Nat.reduceAdd, Nat.reduceSub, Nat.reduceMul, Int.reduceToNat, Nat.reduceLeDiff, hq0, hq1, Int.toNat_natCast])
    | refine wA_q (by first | with_reducible assumption | rfl) (fun lq tq hlq htq => ?_)
    | ((with_reducible refine Con.callS (G1 := []) hwt ?_) ;  rintro v4 M4 G4 hM4 ⟨e, fa, fc, da, dc, oa, oc, na, nc, he, rfl, hX⟩ ;  with_reducible refine And.intro hM4 (And.intro (fun p hp => absurd hp List.not_mem_nil) ?_); try simp only [push_cast, Int.cast_ofNat_Int, reduceIte, Nat.reduceEqDiff, reduceCtorEq, Nat.reduceAdd, Nat.reduceSub, Nat.reduceMul, Int.reduceToNat, Nat.reduceLeDiff, hq0, hq1, Int.toNat_natCast])
    | ((with_reducible refine Con.callS (G1 := []) hwt ?_) ;  rintro v4 M4 G4 hM4 ⟨e, fa, fc, da, dc, oa, oc, na, nc, he, rfl, hX⟩; try simp only [push_cast, Int.cast_ofNat_Int, reduceIte, Nat.reduceEqDiff, reduceCtorEq, Nat.reduceAdd, Nat.reduceSub, Nat.reduceMul, Int.reduceToNat, Nat.reduceLeDiff, hq0, hq1, Int.toNat_natCast])
    | (refine wA_s (by first | with_reducible assumption | rfl) (fun tq htq => ?_) (fun tq htq => ?_) <;> try simp only [push_cast, Int.cast_ofNat_Int, reduceIte, Nat.reduceEqDiff, reduceCtorEq, Nat.reduceAdd, Nat.reduceSub, Nat.reduceMul, Int.reduceToNat, Nat.reduceLeDiff, hq0, hq1, Int.toNat_natCast])
    | (refine wA_sT (by first | with_reducible assumption | rfl) (fun tq htq => ?_) (fun tq htq => ?_) <;> try simp only [push_cast, Int.cast_ofNat_Int, reduceIte, Nat.reduceEqDiff, reduceCtorEq, Nat.reduceAdd, Nat.reduceSub, Nat.reduceMul, Int.reduceToNat, Nat.reduceLeDiff, hq0, hq1, Int.toNat_natCast])
    | exact wA_no (by first | with_reducible assumption | rfl)
    | refine wA_fin (by first | with_reducible assumption | rfl) ?_
    | (refine And.intro (by omega) ?_)
    | ((first | with_reducible intro b | refine Exists.intro _ (And.intro (rd_M (by assumption)) ?_) | refine Exists.intro _ (Exists.intro _ (Exists.intro _ (And.intro (rd_M (by assumption)) ?_))) | refine xw ?_ | refine And.intro (PHeap.le_refl _) (And.intro (mem_of_sub ?_) ?_); focus ((repeat' first | exact List.Sublist.refl _ | exact List.nil_sublist _ | exact List.sublist_append_left _ _ | refine List.Sublist.cons_cons _ ?_ | refine List.Sublist.append_left ?_ _ | refine List.sublist_append_of_sublist_right ?_ | refine List.Sublist.cons _ ?_); done) | fail); try simp only [push_cast, Int.cast_ofNat_Int, reduceIte, Nat.reduceEqDiff, reduceCtorEq, Nat.reduceAdd, Nat.reduceSub, Nat.reduceMul, Int.reduceToNat, Nat.reduceLeDiff, hq0, hq1, Int.toNat_natCast])
    | fail
  all_goals
   obtain ⟨xb, rfl⟩ : ∃ x, x = b := ⟨_, rfl⟩
   refine EV.toS (ρ' := [(3, pv pb 0), (5, vi x), (6, vi y), (7, vi z), (10, pv xb 0), (11, vi 0)]) (G' := [(xb, Cl 45 [.slice fa e.frm.length fc, .slice da e.dn.length dc, .slice oa e.ord.length oc, .slice na e.fen.length nc])]) ?_ ?envw
   case envw =>
    repeat' first
     | (refine List.forall_mem_cons.2 (And.intro ?_ ?_))
     | (intro _ hnil; cases hnil; done)
     | rfl
     | fail
   refine EV.keepS [] ?_
   exact hk' _ _ _ ⟨rfl, xb, e, fa, fc, da, dc, oa, oc, na, nc, PHeap.le_trans hM4 (PHeap.le_add _ _), he, IsX.mono (PHeap.le_add _ _) hX, rd_at (T := 45) (cs := [.slice fa e.frm.length fc, .slice da e.dn.length dc, .slice oa e.ord.length oc, .slice na e.fen.length nc]) (by simp) rfl (by simp), rfl⟩
 rintro ρ' M4 G' ⟨rfl, xb, e, fa, fc, da, dc, oa, oc, na, nc, hM4, he, hX, hxb, rfl⟩
 have hle4 := PHeap.le_trans hM12 hM4
 have hpb4 := hpb2.mono hM4
 have hx := execsP_ok hp1 he
 have hz := exec_sz hp1 hx
 have hf0 : failsN (evsOf ts) e = 0 := (fails_zero hp1 (evs_mono ts)).2 he
 obtain ⟨w1, w2, w3⟩ := bf_laws hp1 (evs_mono ts) he
 repeat' first
   | refine EV.seq ?_
   | (refine EV.reg ?_; (conv => (arg 2; whnf)); (refine nx ?_; try with_reducible exact ⟨⟩))
   | (refine Exists.intro _ (And.intro (rd_M (by assumption)) ?_); try (refine nx ?_; try with_reducible exact ⟨⟩))
   | fail
 refine Con.callS (G1 := []) (litmus_Expand_c ts _ (hsN.mono hle4) hb) ?_
 rintro v5 M5 G5 hM5 (⟨hne, _⟩ | ⟨_, s5, rfl, hs5⟩)
 ·exact absurd hck hne
 have hsm := checkP_small hck
 obtain ⟨a1, c1, vs1, rfl, hl1, hrd1, hk1⟩ := hs5
 have hqe : evsOf ts = evsGo 0 (ts.map expT) := rfl
 have hl14 := evs_len14 hck
 generalize hq : ts.map expT = q at *
 have hql : q.length = ts.length := by subst hq; simp
 have hflat : q.flatten.length ≤ 14 := by rw [← evsGo_len q 0, ← hqe]; exact hl14
 have hpb5 := hpb4.mono hM5
 have hxb5 := hxb.mono hM5
 simp only [wpS, wpA, wpQL, push_cast, Int.cast_ofNat_Int, reduceIte, Nat.reduceEqDiff, reduceCtorEq, Nat.reduceAdd, Nat.reduceSub, Nat.reduceMul, Int.reduceToNat, Nat.reduceLeDiff]
 repeat' first
   | refine EV.seq ?_
   | refine EV.block ?_
   | (refine EV.reg ?_; (conv => (arg 2; whnf)); (refine nx ?_; try with_reducible exact ⟨⟩))
   | (with_reducible intro b; try (refine nx ?_; try with_reducible exact ⟨⟩))
   | (refine xw ?_; (refine nx ?_; try with_reducible exact ⟨⟩))
   | fail
 obtain ⟨qb, rfl⟩ : ∃ x, x = b := ⟨_, rfl⟩
 refine EV.keepS [] ?_
 generalize hR : M5.add _ = N5
 have hMN5 : M5.le N5 := hR ▸ PHeap.le_add _ _
 have hqb : rd N5 qb 0 1 [.slice a1 q.length c1] := hR ▸ rd_at (T := 24) (cs := [.slice a1 q.length c1]) (by simp) rfl (by simp)
 clear hR
 have hpbN := hpb5.mono hMN5
 have hxbN := hxb5.mono hMN5
 have hxf := hxbN.pt 0 1 (by omega) rfl
 simp only [Nat.zero_add] at hxf
 have hle5 := PHeap.le_trans hM5 hMN5
 have hXN := IsX.mono hle5 hX
 have hsF := hsN.mono (PHeap.le_trans hle4 hle5)
 refine EV.toS (ρ' := [(3, pv pb 0), (5, vi x), (6, vi y), (7, vi z), (10, pv xb 0), (11, vi 0), (12, pv qb 0), (13, vi 0), (14, vi (0 : Nat)), (15, osv none 0), (16, vi (0 : Nat))]) (G' := []) ?_ ?env0
 case env0 =>
  repeat' first
   | (refine List.forall_mem_cons.2 (And.intro ?_ ?_))
   | (intro _ hnil; cases hnil; done)
   | rfl
   | fail
 refine EV.loopTo (fun x1 : Nat × Vec => ([(3, pv pb 0), (5, vi x), (6, vi y), (7, vi z), (10, pv xb 0), (11, vi 0), (12, pv qb 0), (13, vi 0), (14, vi (evsGo 0 (q.take x1.1)).length), (15, osv x1.2 (evsGo 0 (q.take x1.1)).length), (16, vi x1.1)], N5, osg 3 x1.2 (thsI (evsGo 0 (q.take x1.1)))))
  (fun x1 => x1.1 ≤ q.length ∧ osok 1 x1.2 (evsGo 0 (q.take x1.1)).length (thsI (evsGo 0 (q.take x1.1)))) (fun x1 => q.length - x1.1) (0, none) rfl ⟨Nat.zero_le _, rfl, rfl⟩ ?env1 (List.nil_sublist _) ?_
 case env1 =>
  repeat' first
   | (refine List.forall_mem_cons.2 (And.intro ?_ ?_))
   | (intro _ hnil; cases hnil; done)
   | rfl
   | fail
 rintro ⟨t, ov⟩ ⟨ht, hov⟩ ih
 dsimp only at ht hov ih ⊢
 repeat' first
   | refine EV.seq ?_
   | refine EV.skip ?_
   | refine EV.block ?_
   | (refine EV.reg ?_; (conv => (arg 2; whnf)); (refine nx ?_; try with_reducible exact ⟨⟩))
   | with_reducible assumption
   | (refine condW.merge ?_ (fun hc K' hK => ?_) ?_; rotate_left)
   | (refine EV.condX rfl (fun h => ?_) (fun h => ?_) <;> try exact dead h)
   | (refine EV.exit rfl ?_)
   | (refine Exists.intro _ (Exists.intro _ (Exists.intro _ (And.intro (rd_M (by assumption)) ?_))); try (refine nx ?_; try with_reducible exact ⟨⟩))
   | fail
 ·have ht' : t < q.length := by omega
  obtain ⟨pb2, po2, rfl, hat2⟩ := SlSl.at hrd1 hl1 hk1 (by omega)
  obtain ⟨a2, c2, hq1', hq2'⟩ := hat2 t ht'
  simp only [Nat.mul_one] at hq1'
  have hq1' := hq1'.mono hMN5
  have hlen : ∀ j, (evPart q t j).length ≤ q.flatten.length := fun j => evPart_len ht' j
  have hlen0 : q[t].length ≤ q.flatten.length := evPart_len0 ht'
  repeat' first
    | fail
  refine EV.loopTo (fun x1 : Nat × Vec => ([(3, pv pb 0), (5, vi x), (6, vi y), (7, vi z), (10, pv xb 0), (11, vi 0), (12, pv qb 0), (13, vi 0), (14, vi (evPart q t x1.1).length), (15, osv x1.2 (evPart q t x1.1).length), (16, vi t), (17, vi x1.1)], N5, osg 3 x1.2 (thsI (evPart q t x1.1))))
   (fun x1 => x1.1 ≤ q[t].length ∧ osok 1 x1.2 (evPart q t x1.1).length (thsI (evPart q t x1.1))) (fun x1 => q[t].length - x1.1) (0, ov) rfl ⟨Nat.zero_le _, by rw [evPart_zero]; exact hov⟩ ?env2 (by rw [evPart_zero]; exact List.Sublist.refl _) ?_
  case env2 =>
   simp only [evPart_zero]
   repeat' first
    | (refine List.forall_mem_cons.2 (And.intro ?_ ?_))
    | (intro _ hnil; cases hnil; done)
    | rfl
    | fail
  rintro ⟨j, o1⟩ ⟨hj, ho1⟩ ih2
  dsimp only at hj ho1 ih2 ⊢
  repeat' first
    | refine EV.seq ?_
    | refine EV.skip ?_
    | refine EV.block ?_
    | refine EV.inBlock ?_
    | (refine EV.reg ?_; (conv => (arg 2; whnf)); (refine nx ?_; try with_reducible exact ⟨⟩))
    | (refine EV.condX rfl (fun h => ?_) (fun h => ?_) <;> try exact dead h)
    | (refine EV.exit rfl ?_)
    | (with_reducible intro b; try (refine nx ?_; try with_reducible exact ⟨⟩))
    | (refine And.intro (by omega) ?_)
    | (refine Exists.intro _ (Exists.intro _ (Exists.intro _ (And.intro (rd_M (by assumption)) ?_))); try (refine nx ?_; try with_reducible exact ⟨⟩))
    | fail
  ·have hj' : j < q[t].length := by omega
   have hlj := hlen j
   repeat' first
     | fail
   refine ⟨[vi t], Or.inr ⟨_, 0, rfl, rd_at (T := 3) (cs := [vi t]) (by simp) rfl (by simp)⟩, by simp [ok1_cons, ok1_nil, Value.oneCell'], Or.inl ⟨o1, _, rfl, _, ho1, _, PullL.p, by simp only [maxLen]; omega, by omega, fun o2 ho2 _ => ?_⟩⟩
   simp only [List.cons_append, List.append_assoc]
   repeat' first
     | refine EV.inBlock ?_
     | (refine EV.reg ?_; (conv => (arg 2; whnf)); (refine nx ?_; try with_reducible exact ⟨⟩))
     | fail
   have e3 := evPart_succ ht' hj'
   have ih3 := ih2 (j + 1, o2) ⟨by dsimp only; omega, by rw [e3, List.length_append, thsI, List.map_append]; exact ho2⟩ (by dsimp only; omega)
   dsimp only at ih3
   rw [e3, List.length_append, show [(⟨q[t][j], (t : Int)⟩ : Ev)].length = 1 from rfl, thsI, List.map_append] at ih3
   refine EV.to ih3 ?_ (by (repeat' first | exact List.Sublist.refl _ | exact List.nil_sublist _ | exact List.sublist_append_left _ _ | refine List.Sublist.cons_cons _ ?_ | refine List.Sublist.append_left ?_ _ | refine List.sublist_append_of_sublist_right ?_ | refine List.Sublist.cons _ ?_))
   repeat' first
    | (refine List.forall_mem_cons.2 (And.intro ?_ ?_))
    | (intro _ hnil; cases hnil; done)
    | rfl
    | (refine env_w64 rfl (by first | rfl | (push_cast; first | rfl | omega)) (by omega) (by omega); done)
    | fail
  ·have hj' : j = q[t].length := by omega
   subst hj'
   rw [evPart_all ht'] at ho1 ⊢
   refine EV.to (ih (t + 1, o1) ⟨by dsimp only; omega, ho1⟩ (by dsimp only; omega)) ?_ (by (repeat' first | exact List.Sublist.refl _ | exact List.nil_sublist _ | exact List.sublist_append_left _ _ | refine List.Sublist.cons_cons _ ?_ | refine List.Sublist.append_left ?_ _ | refine List.sublist_append_of_sublist_right ?_ | refine List.Sublist.cons _ ?_))
   repeat' first
    | (refine List.forall_mem_cons.2 (And.intro ?_ ?_))
    | (intro _ hnil; cases hnil; done)
    | rfl
    | (refine env_w64 rfl (by first | rfl | (push_cast; first | rfl | omega)) (by omega) (by omega); done)
    | fail
 ·exfalso
  have hte : t = q.length := by omega
  subst hte
  have hfl := hx.fl
  rw [List.take_length] at h
  rw [hqe] at hfl
  simp [hfl] at h
 ·refine EV.ret Q1000_ok ?_
  simp only [wpS, wpA, wpQL, push_cast, Int.cast_ofNat_Int, reduceIte, Nat.reduceEqDiff, reduceCtorEq, Nat.reduceAdd, Nat.reduceSub, Nat.reduceMul, Int.reduceToNat, Nat.reduceLeDiff, Q1000]
 ·have hte : t = q.length := by omega
  subst hte
  rw [List.take_length, ← hqe] at h
  rw [List.take_length, ← hqe] at hov ⊢
  clear ih
  have hL : 0 < (evsOf ts).length := by omega
  have hL14 : (evsOf ts).length ≤ 14 := hl14
  have hu0 := u64_pos hL (by omega)
  obtain ⟨x1, x2⟩ := modN_eq x hL (by omega)
  obtain ⟨y1, y2⟩ := modN_eq y hL (by omega)
  obtain ⟨z1, z2⟩ := modN_eq z hL (by omega)
  generalize modN x (evsOf ts).length = i1 at x1 x2
  generalize modN y (evsOf ts).length = j1 at y1 y2
  generalize modN z (evsOf ts).length = k1 at z1 z2
  refine EV.any (t := Q1000_25) [] (List.nil_sublist _) ?_
  simp only [norm_cons, norm_nil, get_cons, get_nil, reduceIte, Nat.reduceEqDiff]
  repeat' first
    | ((first | refine wQ_op (by first | with_reducible assumption | rfl) (fun lq hlq => ?_) | refine wQ_nil (by first | with_reducible assumption | rfl) ?_ | fail); try simp only [push_cast, Int.cast_ofNat_Int, reduceIte, Nat.reduceEqDiff, reduceCtorEq, Nat.reduceAdd, Nat.reduceSub, Nat.reduceMul, Int.reduceToNat, Nat.reduceLeDiff, hu0, x1, y1, z1])
    | refine wA_fin (by first | with_reducible assumption | rfl) ?_
    | fail
  refine EV.keepS [] ?_
  generalize hR : N5.add _ = N6
  have hMN6 : N5.le N6 := hR ▸ PHeap.le_add _ _
  have hth : Sl N6 1 ei (osv ov ((evsOf ts).map (·.th)).length) ((evsOf ts).map (·.th)) := hR ▸ Sl_osvI (T := 3) (by rw [List.length_map, List.map_map]; exact hov) (fun q hq => by rw [List.map_map] at hq; exact hq)
  clear hR
  rw [List.length_map] at hth
  have hpb6 := hpbN.mono hMN6
  have hxb6 := hxbN.mono hMN6
  have hX6 := IsX.mono hMN6 hXN
  have hs6 := hsF.mono hMN6
  have hbef : ∀ (Mx : PHeap) (hle : N6.le Mx) (a b : Nat), a < (evsOf ts).length → b < (evsOf ts).length → Con Tryz.prog 27 #[.agg #[.slice ta ts.length tc], .agg #[.slice fa e.frm.length fc, .slice da e.dn.length dc, .slice oa e.ord.length oc, .slice na e.fen.length nc], vi a, vi b] Mx [] fun u _ _ => u = .tuple #[vb (bfB (evsOf ts) e a b), vi 0] := by
   intro Mx hle a b ha hb'
   refine (ax_Before_c ts _ (hs6.mono hle) hb e _ (IsX.mono hle hX6) hz a b).mono fun u M' G' hh => ?_
   rcases hh with ⟨hne, _⟩ | ⟨_, ⟨hne, _⟩ | ⟨_, rfl⟩⟩
   ·exact absurd hck hne
   ·exfalso; omega
   ·rw [Int.toNat_natCast, Int.toNat_natCast]
  have hbefN : ∀ (Mx : PHeap) (hle : N6.le Mx) (a : Nat), Con Tryz.prog 27 #[.agg #[.slice ta ts.length tc], .agg #[.slice fa e.frm.length fc, .slice da e.dn.length dc, .slice oa e.ord.length oc, .slice na e.fen.length nc], vi a, vi (evsOf ts).length] Mx [] fun u _ _ => u = .tuple #[vb false, vi 1] := by
   intro Mx hle a
   refine (ax_Before_c ts _ (hs6.mono hle) hb e _ (IsX.mono hle hX6) hz a _).mono fun u M' G' hh => ?_
   rcases hh with ⟨hne, _⟩ | ⟨_, ⟨_, rfl⟩ | ⟨hne, _⟩⟩
   ·exact absurd hck hne
   ·rfl
   ·exfalso; omega
  repeat' first
    | refine EV.seq ?_
    | (refine EV.reg ?_; (conv => (arg 2; whnf)); (refine nx ?_; try with_reducible exact ⟨⟩))
    | (refine Exists.intro _ (And.intro (rd_M (by assumption)) ?_); try (refine nx ?_; try with_reducible exact ⟨⟩))
    | fail
  refine Con.callS (G1 := []) (hbef N6 (PHeap.le_refl _) i1 j1 x2 y2) ?_
  rintro v7 M7 G7 hM7 rfl
  have hp7 := hpb6.mono hM7
  have hx7 := hxb6.mono hM7
  simp only [wpS, wpA, wpQL, push_cast, Int.cast_ofNat_Int, reduceIte, Nat.reduceEqDiff, reduceCtorEq, Nat.reduceAdd, Nat.reduceSub, Nat.reduceMul, Int.reduceToNat, Nat.reduceLeDiff]
  repeat' first
    | refine EV.seq ?_
    | (refine EV.reg ?_; (conv => (arg 2; whnf)); (refine nx ?_; try with_reducible exact ⟨⟩))
    | (refine Exists.intro _ (And.intro (rd_M (by assumption)) ?_); try (refine nx ?_; try with_reducible exact ⟨⟩))
    | fail
  refine Con.callS (G1 := []) (hbef M7 hM7 j1 k1 y2 z2) ?_
  rintro v8 M8 G8 hM8 rfl
  have hp8 := hp7.mono hM8
  have hx8 := hx7.mono hM8
  have hL8 := PHeap.le_trans hM7 hM8
  simp only [wpS, wpA, wpQL, push_cast, Int.cast_ofNat_Int, reduceIte, Nat.reduceEqDiff, reduceCtorEq, Nat.reduceAdd, Nat.reduceSub, Nat.reduceMul, Int.reduceToNat, Nat.reduceLeDiff]
  repeat' first
    | refine EV.seq ?_
    | (refine EV.reg ?_; (conv => (arg 2; whnf)); (refine nx ?_; try with_reducible exact ⟨⟩))
    | (refine Exists.intro _ (And.intro (rd_M (by assumption)) ?_); try (refine nx ?_; try with_reducible exact ⟨⟩))
    | fail
  refine Con.callS (G1 := []) (hbef M8 hL8 i1 k1 x2 z2) ?_
  rintro v9 M9 G9 hM9 rfl
  have hp9 := hp8.mono hM9
  have hx9 := hx8.mono hM9
  have hL9 := PHeap.le_trans hL8 hM9
  simp only [wpS, wpA, wpQL, push_cast, Int.cast_ofNat_Int, reduceIte, Nat.reduceEqDiff, reduceCtorEq, Nat.reduceAdd, Nat.reduceSub, Nat.reduceMul, Int.reduceToNat, Nat.reduceLeDiff]
  repeat' first
    | refine EV.seq ?_
    | (refine EV.reg ?_; (conv => (arg 2; whnf)); (refine nx ?_; try with_reducible exact ⟨⟩))
    | (refine Exists.intro _ (And.intro (rd_M (by assumption)) ?_); try (refine nx ?_; try with_reducible exact ⟨⟩))
    | fail
  refine Con.callS (G1 := []) (hbef M9 hL9 i1 i1 x2 x2) ?_
  rintro v10 M10 G10 hM10 rfl
  have hp10 := hp9.mono hM10
  have hx10 := hx9.mono hM10
  have hL10 := PHeap.le_trans hL9 hM10
  rw [w1 i1]
  simp only [wpS, wpA, wpQL, push_cast, Int.cast_ofNat_Int, reduceIte, Nat.reduceEqDiff, reduceCtorEq, Nat.reduceAdd, Nat.reduceSub, Nat.reduceMul, Int.reduceToNat, Nat.reduceLeDiff]
  repeat' first
    | refine EV.seq ?_
    | (refine EV.reg ?_; (conv => (arg 2; whnf)); (refine nx ?_; try with_reducible exact ⟨⟩))
    | (refine Exists.intro _ (And.intro (rd_M (by assumption)) ?_); try (refine nx ?_; try with_reducible exact ⟨⟩))
    | fail
  refine Con.callS (G1 := []) (hbefN M10 hL10 i1) ?_
  rintro v11 M11 G11 hM11 rfl
  have hth11 := hth.mono (PHeap.le_trans hL10 hM11)
  simp only [wpS, wpA, wpQL, push_cast, Int.cast_ofNat_Int, reduceIte, Nat.reduceEqDiff, reduceCtorEq, Nat.reduceAdd, Nat.reduceSub, Nat.reduceMul, Int.reduceToNat, Nat.reduceLeDiff]
  repeat' first
    | refine EV.seq ?_
    | refine EV.skip ?_
    | (refine EV.reg ?_; (conv => (arg 2; whnf)); (refine nx ?_; try with_reducible exact ⟨⟩))
    | with_reducible assumption
    | (refine condW.merge ?_ (fun hc K' hK => ?_) ?_; rotate_left)
    | (refine EV.condX rfl (fun h => ?_) (fun h => ?_) <;> try exact dead h)
    | fail
  ·exfalso; simp at h
  have hth0 : ∀ n, n < (evsOf ts).length → ((evsOf ts).map (·.th))[n]?.getD 0 = (evAt (evsOf ts) n).th := fun n hn => by
   rw [List.getElem?_map, List.getElem?_eq_getElem hn, evAt_eq hn]; rfl
  obtain ⟨sa, sc, esl, hrr⟩ := hth11
  rw [List.length_map] at esl
  rw [esl]
  obtain ⟨tb, tof, rfl, hat3⟩ := Sl.at (sz := 1) (enc := ei) (fun _ => rfl) (by decide) hrr (by rw [List.length_map]; exact hL)
  have hri := hat3 i1 (by rw [List.length_map]; exact x2)
  have hrj := hat3 j1 (by rw [List.length_map]; exact y2)
  rw [Nat.mul_one, List.getElem_map, ← evAt_eq x2] at hri
  rw [Nat.mul_one, List.getElem_map, ← evAt_eq y2] at hrj
  have v2 := w2 i1 j1 k1
  have v3 := w3 i1 j1 x2 y2
  clear w1 w2 w3 hbef hbefN hat3 hth0
  generalize (evAt (evsOf ts) i1).th = t1 at hri v3
  generalize (evAt (evsOf ts) j1).th = t2 at hrj v3
  generalize bfB (evsOf ts) e i1 j1 = bij at v2 v3 ⊢
  generalize bfB (evsOf ts) e j1 k1 = bjk at v2 ⊢
  generalize bfB (evsOf ts) e i1 k1 = bik at v2 ⊢
  obtain ⟨bt, dT⟩ : ∃ bt, decide (t1 = t2) = bt := ⟨_, rfl⟩
  obtain ⟨bd, d2⟩ : ∃ bd, decide ((i1 : Int) < (j1 : Int)) = bd := ⟨_, rfl⟩
  have v4 : bt = true → bij = bd := fun hb1 => by
   rw [v3 (of_decide_eq_true (dT.trans hb1)), ← d2]; exact decide_eq_decide.2 (by omega)
  clear v3
  cases bij with
  | false =>
   refine EV.any (t := Q1000_33) [] (List.nil_sublist _) ?_
   simp only [norm_cons, norm_nil, get_cons, get_nil, reduceIte, Nat.reduceEqDiff]
   repeat' first
     | ((refine wQ_g (by first | with_reducible assumption | rfl) rfl ?_ (fun lq hlq hc => ?_) (fun lq hlq => ?_); rotate_left) <;> (try (exfalso; simp at hc; done)) <;> try simp only [push_cast, Int.cast_ofNat_Int, reduceIte, Nat.reduceEqDiff, reduceCtorEq, Nat.reduceAdd, Nat.reduceSub, Nat.reduceMul, Int.reduceToNat, Nat.reduceLeDiff, dT, d2, Bool.not_false, Bool.not_true])
     | ((first | refine wQ_op (by first | with_reducible assumption | rfl) (fun lq hlq => ?_) | refine wQ_nil (by first | with_reducible assumption | rfl) ?_ | fail); try simp only [push_cast, Int.cast_ofNat_Int, reduceIte, Nat.reduceEqDiff, reduceCtorEq, Nat.reduceAdd, Nat.reduceSub, Nat.reduceMul, Int.reduceToNat, Nat.reduceLeDiff, dT, d2, Bool.not_false, Bool.not_true])
     | refine wA_fin (by first | with_reducible assumption | rfl) ?_
     | with_reducible rfl
     | (refine And.intro (by omega) ?_)
     | (refine Exists.intro _ (And.intro (rd_M (by assumption)) ?_); try simp only [push_cast, Int.cast_ofNat_Int, reduceIte, Nat.reduceEqDiff, reduceCtorEq, Nat.reduceAdd, Nat.reduceSub, Nat.reduceMul, Int.reduceToNat, Nat.reduceLeDiff, dT, d2, Bool.not_false, Bool.not_true])
     | exact false
     | fail
   refine EV.ret Q1000_ok ?_
   simp only [wpS, wpA, wpQL, push_cast, Int.cast_ofNat_Int, reduceIte, Nat.reduceEqDiff, reduceCtorEq, Nat.reduceAdd, Nat.reduceSub, Nat.reduceMul, Int.reduceToNat, Nat.reduceLeDiff, Q1000]
   all_goals (cases bt <;> cases bd <;> simp_all)
  | true =>
   cases bjk with
   | false =>
    refine EV.any (t := Q1000_33) [] (List.nil_sublist _) ?_
    simp only [norm_cons, norm_nil, get_cons, get_nil, reduceIte, Nat.reduceEqDiff]
    repeat' first
      | ((refine wQ_g (by first | with_reducible assumption | rfl) rfl ?_ (fun lq hlq hc => ?_) (fun lq hlq => ?_); rotate_left) <;> (try (exfalso; simp at hc; done)) <;> try simp only [push_cast, Int.cast_ofNat_Int, reduceIte, Nat.reduceEqDiff, reduceCtorEq, Nat.reduceAdd, Nat.reduceSub, Nat.reduceMul, Int.reduceToNat, Nat.reduceLeDiff, dT, d2, Bool.not_false, Bool.not_true])
      | ((first | refine wQ_op (by first | with_reducible assumption | rfl) (fun lq hlq => ?_) | refine wQ_nil (by first | with_reducible assumption | rfl) ?_ | fail); try simp only [push_cast, Int.cast_ofNat_Int, reduceIte, Nat.reduceEqDiff, reduceCtorEq, Nat.reduceAdd, Nat.reduceSub, Nat.reduceMul, Int.reduceToNat, Nat.reduceLeDiff, dT, d2, Bool.not_false, Bool.not_true])
      | refine wA_fin (by first | with_reducible assumption | rfl) ?_
      | with_reducible rfl
      | (refine And.intro (by omega) ?_)
      | (refine Exists.intro _ (And.intro (rd_M (by assumption)) ?_); try simp only [push_cast, Int.cast_ofNat_Int, reduceIte, Nat.reduceEqDiff, reduceCtorEq, Nat.reduceAdd, Nat.reduceSub, Nat.reduceMul, Int.reduceToNat, Nat.reduceLeDiff, dT, d2, Bool.not_false, Bool.not_true])
      | exact false
      | fail
    refine EV.ret Q1000_ok ?_
    simp only [wpS, wpA, wpQL, push_cast, Int.cast_ofNat_Int, reduceIte, Nat.reduceEqDiff, reduceCtorEq, Nat.reduceAdd, Nat.reduceSub, Nat.reduceMul, Int.reduceToNat, Nat.reduceLeDiff, Q1000]
    all_goals (cases bt <;> cases bd <;> simp_all)
   | true =>
    obtain rfl : bik = true := v2 rfl rfl
    refine EV.any (t := Q1000_33) [] (List.nil_sublist _) ?_
    simp only [norm_cons, norm_nil, get_cons, get_nil, reduceIte, Nat.reduceEqDiff]
    repeat' first
      | ((refine wQ_g (by first | with_reducible assumption | rfl) rfl ?_ (fun lq hlq hc => ?_) (fun lq hlq => ?_); rotate_left) <;> (try (exfalso; simp at hc; done)) <;> try simp only [push_cast, Int.cast_ofNat_Int, reduceIte, Nat.reduceEqDiff, reduceCtorEq, Nat.reduceAdd, Nat.reduceSub, Nat.reduceMul, Int.reduceToNat, Nat.reduceLeDiff, dT, d2, Bool.not_false, Bool.not_true])
      | ((first | refine wQ_op (by first | with_reducible assumption | rfl) (fun lq hlq => ?_) | refine wQ_nil (by first | with_reducible assumption | rfl) ?_ | fail); try simp only [push_cast, Int.cast_ofNat_Int, reduceIte, Nat.reduceEqDiff, reduceCtorEq, Nat.reduceAdd, Nat.reduceSub, Nat.reduceMul, Int.reduceToNat, Nat.reduceLeDiff, dT, d2, Bool.not_false, Bool.not_true])
      | refine wA_fin (by first | with_reducible assumption | rfl) ?_
      | with_reducible rfl
      | (refine And.intro (by omega) ?_)
      | (refine Exists.intro _ (And.intro (rd_M (by assumption)) ?_); try simp only [push_cast, Int.cast_ofNat_Int, reduceIte, Nat.reduceEqDiff, reduceCtorEq, Nat.reduceAdd, Nat.reduceSub, Nat.reduceMul, Int.reduceToNat, Nat.reduceLeDiff, dT, d2, Bool.not_false, Bool.not_true])
      | fail
    refine EV.ret Q1000_ok ?_
    simp only [wpS, wpA, wpQL, push_cast, Int.cast_ofNat_Int, reduceIte, Nat.reduceEqDiff, reduceCtorEq, Nat.reduceAdd, Nat.reduceSub, Nat.reduceMul, Int.reduceToNat, Nat.reduceLeDiff, Q1000]
    all_goals (cases bt <;> cases bd <;> simp_all)

end
end Go.EV

namespace Go.EV
open Go.Proofs Go.ChangeShapes
section
variable {H : Type} {enc : TypeId × Value → H} {W : World} {sp : Nat → Bool} {held : Bool}
theorem cells_orders : (Tryz.prog).cellsOf 66 = 5 := by kernel_rfl

set_option maxRecDepth 100000 in
theorem ordersCase_in {m : Nat} {cs : List Value} {y : DataW H × List MemPlace} (h : DataW.trod enc Tryz.prog W 0 sp held m 66 cs = some y) (hw : (y.1.weights Tryz.prog 66).all (· ≤ reachBytes) = true) :
  ∃ s pk a b c ts, cs = [s, vi pk, vi a, vi b, vi c] ∧ SlSl (heapOf W) 5 encOp s ts ∧ ts.length ≤ reachBytes ∧ ∀ t ∈ ts, t.length ≤ reachBytes := by
 obtain ⟨xs, n, _, e, hl, hxl, hf⟩ := DataW.trod_struct Tryz.underlying66 h
 subst e
 rw [cells_orders] at hl
 have hxl5 : xs.length = 5 := hxl
 have key : ∀ i : Nat, ∀ f : Field, i < 5 → (show Array Field from _)[i]? = some f → f.type = 3 → ∃ k, ((cs.drop f.offset).take 1) = [vi k] := fun i f hi e ht => by
  have h1 := hf i f e
  rw [ht, cells_int] at h1
  obtain ⟨y, hy⟩ : ∃ y, xs[i]? = some y := ⟨xs[i], List.getElem?_eq_getElem (by omega)⟩
  rw [hy] at h1
  exact int_in Tryz.underlying3 h1
 obtain ⟨k1, e1⟩ := key 1 _ (by decide) rfl rfl
 obtain ⟨k2, e2⟩ := key 2 _ (by decide) rfl rfl
 obtain ⟨k3, e3⟩ := key 3 _ (by decide) rfl rfl
 obtain ⟨k4, e4⟩ := key 4 _ (by decide) rfl rfl
 match xs, hxl5 with
 | [y0, y1, y2, y3, y4], _ =>
  have h0 := hf 0 _ rfl
  match cs, hl with
  | [c0, c1, c2, c3, c4], _ =>
   simp at e1 e2 e3 e4
   have h00 : DataW.trod enc Tryz.prog W 0 sp held n 24 [c0] = some y0 := by
    rw [show (Tryz.prog).cellsOf (Field.type _) = 1 from cells_lit] at h0
    exact h0
   have hw0 : (y0.1.weights Tryz.prog 24).all (· ≤ reachBytes) = true := by
    unfold DataW.weights at hw
    rw [Tryz.underlying66] at hw
    simp only [List.map_cons, List.map_nil, DataW.weightsEach, List.all_append, Bool.and_eq_true] at hw
    exact hw.1
   obtain ⟨s, ts, hcs, hs, hb, hb2⟩ := litmus_in h00 hw0
   cases hcs
   exact ⟨_, k1, k2, k3, k4, ts, by rw [e1, e2, e3, e4], hs, hb, hb2⟩
end
end Go.EV
namespace Go.Proofs.YtmgnpoleilcjoaaGreat.axiomOrders
open Go.ChangeShapes Go.WideShapes Go.ChangeAt Go.RowKit Go.EV
set_option linter.unusedVariables false

theorem own : ownKnob Tryz.prog.godebug = none := by kernel_rfl

set_option maxRecDepth 100000 in
theorem lifted (os : Os) (started : os.Started) (H : Type) (enc : TypeId × Value → H) :
  ReturnsInHanded {} Tryz.checked os 8 .any (Rows.axiomOrdersSpec.pre6 enc Tryz.prog Tryz.f8 Rows.axiomOrdersRow.domain false) (Rows.axiomOrdersSpec.post enc Tryz.prog Tryz.f8 false true false false) := by
 refine returnsInHanded_of_change_shaped (C := Tryz.checked) own started (by kernel_rfl) Tryz.func8
  (ChangeSpec.witness6 (enc := enc) (C := Tryz.checked) false ⟨#[], #[.agg #[.slice none 0 0, vi 0, vi 0, vi 0, vi 0]], []⟩ 8 (by kernel_rfl) (by kernel_rfl) (by kernel_rfl) (by kernel_rfl)) ?_
 intro W base args ds gs before hval0 hW hcnd hwt _ _
 have hval : ∀ (j : Nat) t v, Tryz.f8.params[j]? = some t → args[j]? = some v → Value.okWide Tryz.prog W .any base t v := hval0
 have hW' := hW
 obtain ⟨p, q, hA0, hV, rfl, hfz, hnd⟩ := hW
 have hA : DataW.TrodAll enc Tryz.prog W 0 (fun _ => true) true Tryz.f8.params.toList args.toList ds p := hA0
 have hA1 := hA
 rw [Tryz.params8] at hA hval
 obtain ⟨v0, vs0, d0, ds0, p0, q0, hargs, rfl, rfl, h0, r0⟩ := trodAll_cons hA
 obtain ⟨rfl, rfl, rfl⟩ := trodAll_nil r0
 obtain rfl : args = #[v0] := by cases args; simp_all
 obtain ⟨rfl, rfl⟩ := trodVars_none hV
 have k0 := hval 0 66 v0 rfl rfl
 simp only [Value.okWide, Tryz.underlying66] at k0
 obtain ⟨cs0, rfl, _, _⟩ := k0
 obtain ⟨m0, h0⟩ := h0
 have hwt2 : (DataW.weightsEach Tryz.prog [66] [d0]).all (· ≤ reachBytes) = true := hwt
 simp only [DataW.weightsEach, List.all_append, Bool.and_eq_true] at hwt2
 obtain ⟨hw0, _⟩ := hwt2
 obtain ⟨s, pk, x, y, z, ts, hcs, hs, hb, hb2⟩ := ordersCase_in h0 hw0
 have hcs2 : cs0 = #[s, vi pk, vi x, vi y, vi z] := by
  have : cs0.toList = [s, vi pk, vi x, vi y, vi z] := hcs
  exact Array.ext' this
 subst hcs2
 have hrb : reachBytes ≤ 140737488355328 := by decide
 refine (Con.at2 (AxiomOrders_c ts s hs ⟨by omega, fun t ht => by have := hb2 t ht; omega⟩ pk x y z)).mono fun e W' hX => ?_
 obtain ⟨v, rfl, ⟨_, _, rfl⟩, hk, hfr⟩ := hX
 have hlt := hW'.lt
 exact ⟨_, rfl, post_of_kept (pv := []) hW' (fun _ _ _ => (trodAll_cons_mk (shut_bool Tryz.underlying4 _) trodAll_mk0)) (fun sp hsp => trodAll_kept kids rows_pos' hfr (by rw [Tryz.params8]; exact of_decide_eq_true (by kernel_rfl)) hA1 (fun r hr => hlt r (by simpa using hr)) (fun r hr => hsp r (by simpa using hr))) (fun _ _ => rfl) rfl hk⟩

theorem over : Rows.axiomOrdersRow.holds Tryz.pinned (OpenSpec.ofChange Rows.axiomOrdersSpec) :=
 OpenClaim.holds_of_wide 8 Tryz.f8 rfl rfl rfl rfl rfl rfl rfl ⟨rfl, rfl, rfl, rfl, rfl⟩ rfl rfl rfl rfl rfl (by kernel_rfl) Tryz.func8 (by kernel_rfl)
  (of_decide_eq_true (by kernel_rfl)) (by unfold Func.isWrapper; first | (rw [if_pos (by decide +kernel)]; kernel_rfl) | (rw [if_neg (by decide +kernel)]; exact ⟨rfl, rfl⟩))
  (fun os started H enc _ => lifted os started H enc)

/-- The statement. -/
theorem proved : Rows.AxiomOrdersSaid :=
 over
#print axioms proved
end Go.Proofs.YtmgnpoleilcjoaaGreat.axiomOrders
