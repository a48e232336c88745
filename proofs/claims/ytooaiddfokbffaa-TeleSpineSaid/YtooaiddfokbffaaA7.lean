/- Texts of the proof, one behind the other. Conditions: none. -/
import Derived.Test.YtooaiddfokbffaaA6
import Derived.Test.YtooaiddfokbffaaProg
import Derived.KernelRfl
/- The code of functions, over abstract states. Conditions: none. -/
set_option maxRecDepth 100000
set_option linter.unusedVariables false
namespace Go.Proofs.Ytooaiddfokbffaa.E
open Go Go.Proofs
def c5 : AFn := ⟨[(.t 2)], (.seq (.ops [(.op (some 1) none (.box (.t 0))), (.op (some 2) none (.move (.c (.v (.bool false)))))]) (.seq (.ops [(.call (some 12) none (.c (.fn (.func 28) [] [])) []), (.op (some 3) none (.move (.t 12)))]) (.seq (.ops [(.op (some 13) none (.load true 6 (.t 1))), (.call (some 14) none (.c (.fn (.func 15) [] [])) [(.t 13)]), (.op (some 4) none (.move (.t 14)))]) (.seq (.seq (.ops [(.op (some 15) none (.move (.t 3))), (.op (some 16) none (.not (.t 15))), (.op (some 17) none (.move (.t 16))), (.op (some 18) (some (17, false)) (.move (.t 4))), (.op (some 19) none (.pick (.t 17) (.c (.v (.bool true))) (.t 18))), (.op (some 20) none (.move (.t 19))), (.op (some 21) (some (20, false)) (.load true 6 (.t 1))), (.call (some 22) (some (20, false)) (.c (.fn (.func 29) [] [])) [(.t 21)]), (.op (some 23) (some (20, false)) (.ibin .neq (.t 22) (.c (.v (.int .i64 0))))), (.op (some 24) none (.pick (.t 20) (.c (.v (.bool true))) (.t 23)))]) (.cond (.t 24) (.seq (.ops [(.op (some 25) none (.move (.t 3))), (.op (some 2) none (.move (.t 25)))]) .ret) .skip)) (.seq (.ops [(.op (some 27) none (.load true 6 (.t 1))), (.call (some 28) none (.c (.fn (.func 30) [] [])) [(.t 27)]), (.op (some 26) none (.move (.t 28))), (.op (some 29) none (.ext (.t 26) 0)), (.op (some 30) none (.ext (.t 26) 1)), (.op (some 31) none (.ext (.t 26) 2)), (.op (some 5) none (.alloc [(.v (.int .i64 0)), (.v (.int .i64 0)), (.v (.bool false)), (.v (.string (ByteArray.mk #[]))), (.v (.slice none 0 0)), (.v (.slice none 0 0))])), (.op none none (.store 6 (.t 5) (.t 29))), (.op (some 6) none (.move (.t 30))), (.op (some 7) none (.move (.t 31)))]) (.seq (.ops [(.op (some 33) none (.load true 6 (.t 1))), (.call (some 34) none (.c (.fn (.func 31) [] [])) [(.t 33)]), (.op (some 32) none (.move (.t 34))), (.op (some 35) none (.ext (.t 32) 0)), (.op (some 36) none (.ext (.t 32) 1)), (.op (some 37) none (.ext (.t 32) 2)), (.op (some 8) none (.alloc [(.v (.int .i64 0)), (.v (.int .i64 0)), (.v (.bool false)), (.v (.string (ByteArray.mk #[]))), (.v (.slice none 0 0)), (.v (.slice none 0 0))])), (.op none none (.store 6 (.t 8) (.t 35))), (.op (some 9) none (.move (.t 36))), (.op (some 10) none (.move (.t 37)))]) (.seq (.seq (.ops [(.op (some 38) none (.move (.t 7))), (.op (some 39) none (.len .slice (.t 38))), (.op (some 40) none (.move (.t 10))), (.op (some 41) none (.len .slice (.t 40))), (.op (some 42) none (.ibin .neq (.t 39) (.t 41)))]) (.cond (.t 42) (.seq (.ops [(.op (some 2) none (.move (.c (.v (.bool false)))))]) .ret) .skip)) (.seq (.seq (.ops [(.op (some 11) none (.move (.c (.v (.int .i64 0)))))]) (.block 0 (.loop (.seq (.seq (.ops [(.op (some 43) none (.move (.t 11))), (.op (some 44) none (.move (.t 10))), (.op (some 45) none (.len .slice (.t 44))), (.op (some 46) none (.ibin .lss (.t 43) (.t 45)))]) (.cond (.t 46) .skip (.exit 0))) (.seq (.block 1 (.seq (.draw [⟨(.op (some 49) none (.move (.t 10))), []⟩, ⟨(.op (some 50) none (.move (.t 11))), []⟩, ⟨(.op (some 51) none (.idx 1 (.t 49) (.t 50))), []⟩, ⟨(.op (some 52) none (.load false 1 (.t 51))), []⟩, ⟨(.op (some 53) none (.move (.t 7))), []⟩, ⟨(.op (some 54) none (.move (.t 11))), []⟩, ⟨(.op (some 55) none (.idx 1 (.t 53) (.t 54))), []⟩, ⟨(.op (some 56) none (.load false 1 (.t 55))), []⟩, ⟨(.op (some 57) none (.bbin true (.t 52) (.t 56))), []⟩]) (.cond (.t 57) (.seq (.ops [(.op (some 2) none (.move (.c (.v (.bool false)))))]) .ret) .skip))) (.ops [(.op (some 47) none (.move (.t 11))), (.op (some 48) none (.ibin .add (.t 47) (.c (.v (.int .i64 1))))), (.op (some 11) none (.move (.t 48)))])))))) (.seq (.draw [⟨(.op (some 58) none (.load true 6 (.t 5))), []⟩, ⟨(.op (some 59) none (.load true 6 (.t 8))), []⟩, ⟨(.call (some 60) none (.c (.fn (.func 32) [] [])) [(.t 59)]), [0]⟩, ⟨(.call (some 61) none (.c (.fn (.func 22) [] [])) [(.t 58), (.t 60)]), []⟩, ⟨(.op (some 62) none (.move (.t 61))), []⟩, ⟨(.op (some 63) (some (62, true)) (.move (.t 6))), []⟩, ⟨(.op (some 64) (some (62, true)) (.move (.t 9))), []⟩, ⟨(.call (some 65) (some (62, true)) (.c (.fn (.func 33) [] [])) [(.t 63), (.t 64)]), []⟩, ⟨(.op (some 66) none (.pick (.t 62) (.t 65) (.c (.v (.bool false))))), []⟩, ⟨(.op (some 2) none (.move (.t 66))), []⟩]) .ret)))))))))⟩
theorem cf5 : compFn Try.prog 5 [(12, [(0, []), (1, []), (2, []), (3, []), (4, []), (5, []), (6, []), (7, []), (8, [])]), (14, [(0, []), (1, []), (2, [0]), (3, []), (4, []), (5, []), (6, []), (7, []), (8, []), (9, [])])] = some c5 := by kernel_rfl
def c28 : AFn := ⟨[(.t 0)], (.seq (.ops [(.op (some 0) none (.move (.c (.v (.bool false)))))]) (.seq (.ops [(.call (some 8) none (.c (.fn (.func 23) [] [])) [(.c (.v (.int .i64 0)))]), (.call (some 9) none (.c (.fn (.func 73) [] [])) [(.c (.v (.int .i64 0)))]), (.op (some 10) none (.buildS 6 2 [(.v (.int .i64 0)), (.v (.int .i64 0)), (.v (.bool false)), (.v (.string (ByteArray.mk #[]))), (.v (.slice none 0 0)), (.v (.slice none 0 0)), (.v (.int .i64 0)), (.v (.int .i64 0)), (.v (.bool false)), (.v (.string (ByteArray.mk #[]))), (.v (.slice none 0 0)), (.v (.slice none 0 0))] [(0, (6, (.t 8))), (6, (6, (.t 9)))])), (.call (some 11) none (.c (.fn (.func 73) [] [])) [(.c (.v (.int .i64 1)))]), (.call (some 12) none (.c (.fn (.func 35) [] [])) [(.t 10), (.c (.v (.slice none 0 0))), (.t 11)]), (.op (some 7) none (.move (.t 12))), (.op (some 13) none (.ext (.t 7) 0)), (.op (some 14) none (.ext (.t 7) 1)), (.op (some 1) none (.alloc [(.v (.int .i64 0)), (.v (.int .i64 0)), (.v (.bool false)), (.v (.string (ByteArray.mk #[]))), (.v (.slice none 0 0)), (.v (.slice none 0 0))])), (.op none none (.store 6 (.t 1) (.t 13))), (.op (some 2) none (.move (.t 14)))]) (.seq (.ops [(.op (some 16) none (.load true 6 (.t 1))), (.call (some 17) none (.c (.fn (.func 37) [] [])) [(.t 16), (.c (.v (.int .i64 2)))]), (.op (some 15) none (.move (.t 17))), (.op (some 18) none (.ext (.t 15) 0)), (.op (some 19) none (.ext (.t 15) 1)), (.op (some 20) none (.ext (.t 15) 2)), (.op (some 21) none (.ext (.t 15) 3)), (.op (some 5) none (.alloc [(.v (.int .i64 0)), (.v (.int .i64 0)), (.v (.bool false)), (.v (.string (ByteArray.mk #[]))), (.v (.slice none 0 0)), (.v (.slice none 0 0))])), (.op (some 3) none (.move (.t 18))), (.op (some 4) none (.move (.t 19))), (.op none none (.store 6 (.t 5) (.t 20))), (.op (some 6) none (.move (.t 21)))]) (.seq (.draw [⟨(.op (some 22) none (.move (.t 2))), []⟩, ⟨(.call (some 23) none (.c (.fn (.func 36) [] [])) [(.t 22)]), []⟩, ⟨(.op (some 24) none (.ibin .eql (.t 23) (.c (.v (.int .i64 0))))), []⟩, ⟨(.op (some 25) none (.move (.t 24))), []⟩, ⟨(.op (some 26) (some (25, true)) (.move (.t 6))), []⟩, ⟨(.op (some 27) none (.pick (.t 25) (.t 26) (.c (.v (.bool false))))), []⟩, ⟨(.op (some 28) none (.move (.t 27))), []⟩, ⟨(.op (some 29) (some (28, true)) (.move (.t 3))), []⟩, ⟨(.op (some 30) (some (28, true)) (.len .slice (.t 29))), []⟩, ⟨(.op (some 31) (some (28, true)) (.ibin .eql (.t 30) (.c (.v (.int .i64 2))))), []⟩, ⟨(.op (some 32) none (.pick (.t 28) (.t 31) (.c (.v (.bool false))))), []⟩, ⟨(.op (some 33) none (.move (.t 32))), []⟩, ⟨(.op (some 34) (some (33, true)) (.load true 6 (.t 5))), []⟩, ⟨(.call (some 35) (some (33, true)) (.c (.fn (.func 73) [] [])) [(.c (.v (.int .i64 1)))]), [12]⟩, ⟨(.call (some 36) (some (33, true)) (.c (.fn (.func 22) [] [])) [(.t 34), (.t 35)]), []⟩, ⟨(.op (some 37) none (.pick (.t 33) (.t 36) (.c (.v (.bool false))))), []⟩, ⟨(.op (some 38) none (.move (.t 37))), []⟩, ⟨(.op (some 39) (some (38, true)) (.move (.t 3))), []⟩, ⟨(.op (some 40) (some (38, true)) (.idx 6 (.t 39) (.c (.v (.int .i64 0))))), []⟩, ⟨(.op (some 41) (some (38, true)) (.load true 6 (.t 40))), []⟩, ⟨(.call (some 42) (some (38, true)) (.c (.fn (.func 23) [] [])) [(.c (.v (.int .i64 0)))]), [17, 18, 19]⟩, ⟨(.call (some 43) (some (38, true)) (.c (.fn (.func 22) [] [])) [(.t 41), (.t 42)]), []⟩, ⟨(.op (some 44) none (.pick (.t 38) (.t 43) (.c (.v (.bool false))))), []⟩, ⟨(.op (some 0) none (.move (.t 44))), []⟩]) .ret))))⟩
theorem cf28 : compFn Try.prog 28 [(3, [(0, []), (1, []), (2, []), (3, []), (4, []), (5, []), (6, []), (7, []), (8, []), (9, []), (10, []), (11, []), (12, []), (13, [12]), (14, []), (15, []), (16, []), (17, []), (18, []), (19, []), (20, [17, 18, 19]), (21, []), (22, []), (23, [])])] = some c28 := by kernel_rfl
def c30 : AFn := ⟨[(.c 2 6 true), (.t 3), (.t 4)], (.seq (.ops [(.op (some 1) none (.box (.t 0))), (.op (some 2) none (.alloc [(.v (.int .i64 0)), (.v (.int .i64 0)), (.v (.bool false)), (.v (.string (ByteArray.mk #[]))), (.v (.slice none 0 0)), (.v (.slice none 0 0))])), (.op (some 3) none (.move (.c (.v (.slice none 0 0))))), (.op (some 4) none (.move (.c (.v (.slice none 0 0)))))]) (.seq (.seq (.ops [(.op (some 10) none (.load true 6 (.t 1))), (.call (some 11) none (.c (.fn (.func 24) [] [])) [(.t 10)]), (.op (some 12) none (.ibin .neq (.t 11) (.c (.v (.int .i64 0)))))]) (.cond (.t 12) (.seq (.ops [(.op (some 13) none (.load true 6 (.t 1))), (.op none none (.store 6 (.t 2) (.t 13))), (.op (some 3) none (.move (.c (.v (.slice none 0 0))))), (.op (some 4) none (.move (.c (.v (.slice none 0 0)))))]) .ret) .skip)) (.seq (.ops [(.op (some 15) none (.load true 6 (.t 1))), (.call (some 16) none (.c (.fn (.func 88) [] [])) [(.t 15)]), (.op (some 14) none (.move (.t 16))), (.op (some 17) none (.ext (.t 14) 0)), (.op (some 18) none (.ext (.t 14) 1)), (.op (some 19) none (.ext (.t 14) 2)), (.op (some 5) none (.alloc [(.v (.int .i64 0)), (.v (.int .i64 0)), (.v (.bool false)), (.v (.string (ByteArray.mk #[]))), (.v (.slice none 0 0)), (.v (.slice none 0 0))])), (.op none none (.store 6 (.t 5) (.t 17))), (.op (some 6) none (.move (.t 18))), (.op (some 7) none (.move (.t 19)))]) (.seq (.seq (.ops [(.op (some 20) none (.move (.t 6))), (.op (some 21) none (.len .slice (.t 20))), (.op (some 22) none (.move (.c (.v (.int .i64 0)))))]) (.block 0 (.loop (.seq (.ops [(.op (some 23) none (.ibin .lss (.t 22) (.t 21)))]) (.seq (.cond (.t 23) .skip (.exit 0)) (.seq (.block 1 (.seq (.ops [(.op (some 24) none (.move (.t 22))), (.op (some 25) none (.idx 6 (.t 20) (.t 22))), (.op (some 26) none (.load true 6 (.t 25))), (.op (some 9) none (.alloc [(.v (.int .i64 0)), (.v (.int .i64 0)), (.v (.bool false)), (.v (.string (ByteArray.mk #[]))), (.v (.slice none 0 0)), (.v (.slice none 0 0))])), (.op (some 8) none (.move (.t 24))), (.op none none (.store 6 (.t 9) (.t 26)))]) (.ops [(.op (some 27) none (.move (.t 6))), (.op (some 28) none (.move (.t 8))), (.op (some 29) none (.load true 6 (.t 9))), (.call (some 30) none (.c (.fn (.func 76) [] [])) [(.t 29)]), (.op (some 31) none (.idx 6 (.t 27) (.t 28))), (.op none none (.store 6 (.t 31) (.t 30)))]))) (.ops [(.op (some 32) none (.ibin .add (.t 22) (.c (.v (.int .i64 1))))), (.op (some 22) none (.move (.t 32)))]))))))) (.seq (.ops [(.op (some 33) none (.load true 6 (.t 5))), (.call (some 34) none (.c (.fn (.func 76) [] [])) [(.t 33)]), (.op (some 35) none (.move (.t 6))), (.op (some 36) none (.move (.t 7))), (.op none none (.store 6 (.t 2) (.t 34))), (.op (some 3) none (.move (.t 35))), (.op (some 4) none (.move (.t 36)))]) .ret)))))⟩
theorem cf30 : compFn Try.prog 30 [] = some c30 := by kernel_rfl
def c31 : AFn := ⟨[(.c 2 6 true), (.t 3), (.t 4)], (.seq (.ops [(.op (some 1) none (.box (.t 0))), (.op (some 2) none (.alloc [(.v (.int .i64 0)), (.v (.int .i64 0)), (.v (.bool false)), (.v (.string (ByteArray.mk #[]))), (.v (.slice none 0 0)), (.v (.slice none 0 0))])), (.op (some 3) none (.move (.c (.v (.slice none 0 0))))), (.op (some 4) none (.move (.c (.v (.slice none 0 0)))))]) (.seq (.ops [(.op (some 5) none (.move (.c (.v (.int .i64 0)))))]) (.seq (.seq (.ops [(.op (some 10) none (.load true 6 (.t 1))), (.op (some 6) none (.alloc [(.v (.int .i64 0)), (.v (.int .i64 0)), (.v (.bool false)), (.v (.string (ByteArray.mk #[]))), (.v (.slice none 0 0)), (.v (.slice none 0 0))])), (.op none none (.store 6 (.t 6) (.t 10)))]) (.block 0 (.loop (.seq (.seq (.ops [(.op (some 11) none (.fld 0 (.t 6))), (.op (some 12) none (.load false 1 (.t 11))), (.op (some 13) none (.ibin .eql (.t 12) (.c (.v (.int .i64 5)))))]) (.cond (.t 13) .skip (.exit 0))) (.seq (.block 1 (.ops [(.op (some 18) none (.move (.t 5))), (.op (some 19) none (.ibin .add (.t 18) (.c (.v (.int .i64 1))))), (.op (some 5) none (.move (.t 19)))])) (.seq (.seq (.ops [(.op (some 20) none (.load true 6 (.t 6)))]) (.ops [(.op (some 6) none (.alloc [(.v (.int .i64 0)), (.v (.int .i64 0)), (.v (.bool false)), (.v (.string (ByteArray.mk #[]))), (.v (.slice none 0 0)), (.v (.slice none 0 0))])), (.op none none (.store 6 (.t 6) (.t 20)))])) (.ops [(.op (some 14) none (.fld 5 (.t 6))), (.op (some 15) none (.load false 1 (.t 14))), (.op (some 16) none (.idx 6 (.t 15) (.c (.v (.int .i64 0))))), (.op (some 17) none (.load true 6 (.t 16))), (.op none none (.store 6 (.t 6) (.t 17)))]))))))) (.seq (.ops [(.op (some 21) none (.move (.t 5))), (.op (some 22) none (.mks [(.v (.int .i64 0)), (.v (.int .i64 0)), (.v (.bool false)), (.v (.string (ByteArray.mk #[]))), (.v (.slice none 0 0)), (.v (.slice none 0 0))] 88 (.t 21) (.t 21))), (.op (some 7) none (.move (.t 22)))]) (.seq (.ops [(.op (some 23) none (.move (.t 5))), (.op (some 24) none (.mks [(.v (.bool false))] 1 (.t 23) (.t 23))), (.op (some 8) none (.move (.t 24)))]) (.seq (.seq (.ops [(.op (some 25) none (.move (.t 5))), (.op (some 26) none (.ibin .sub (.t 25) (.c (.v (.int .i64 1))))), (.op (some 9) none (.move (.t 26)))]) (.block 2 (.loop (.seq (.seq (.ops [(.op (some 27) none (.move (.t 9))), (.op (some 28) none (.ibin .geq (.t 27) (.c (.v (.int .i64 0)))))]) (.cond (.t 28) .skip (.exit 2))) (.seq (.block 3 (.seq (.ops [(.op (some 31) none (.move (.t 7))), (.op (some 32) none (.move (.t 9))), (.op (some 33) none (.fld 5 (.t 1))), (.op (some 34) none (.load false 1 (.t 33))), (.op (some 35) none (.idx 6 (.t 34) (.c (.v (.int .i64 1))))), (.op (some 36) none (.load true 6 (.t 35))), (.op (some 37) none (.idx 6 (.t 31) (.t 32))), (.op none none (.store 6 (.t 37) (.t 36)))]) (.seq (.ops [(.op (some 38) none (.move (.t 8))), (.op (some 39) none (.move (.t 9))), (.op (some 40) none (.fld 2 (.t 1))), (.op (some 41) none (.load false 1 (.t 40))), (.op (some 42) none (.idx 1 (.t 38) (.t 39))), (.op none none (.store 1 (.t 42) (.t 41)))]) (.ops [(.op (some 43) none (.fld 5 (.t 1))), (.op (some 44) none (.load false 1 (.t 43))), (.op (some 45) none (.idx 6 (.t 44) (.c (.v (.int .i64 0))))), (.op (some 46) none (.load true 6 (.t 45))), (.op none none (.store 6 (.t 1) (.t 46)))])))) (.ops [(.op (some 29) none (.move (.t 9))), (.op (some 30) none (.ibin .sub (.t 29) (.c (.v (.int .i64 1))))), (.op (some 9) none (.move (.t 30)))])))))) (.seq (.ops [(.op (some 47) none (.load true 6 (.t 1))), (.op (some 48) none (.move (.t 7))), (.op (some 49) none (.move (.t 8))), (.op none none (.store 6 (.t 2) (.t 47))), (.op (some 3) none (.move (.t 48))), (.op (some 4) none (.move (.t 49)))]) .ret)))))))⟩
theorem cf31 : compFn Try.prog 31 [] = some c31 := by kernel_rfl
def c33 : AFn := ⟨[(.t 4)], (.seq (.ops [(.op (some 4) none (.move (.c (.v (.bool false)))))]) (.seq (.seq (.ops [(.op (some 7) none (.move (.t 0))), (.op (some 8) none (.len .slice (.t 7))), (.op (some 9) none (.move (.t 1))), (.op (some 10) none (.len .slice (.t 9))), (.op (some 11) none (.ibin .neq (.t 8) (.t 10)))]) (.cond (.t 11) (.seq (.ops [(.op (some 4) none (.move (.c (.v (.bool false)))))]) .ret) .skip)) (.seq (.seq (.ops [(.op (some 5) none (.move (.c (.v (.int .i64 0)))))]) (.block 0 (.loop (.seq (.seq (.ops [(.op (some 12) none (.move (.t 5))), (.op (some 13) none (.move (.t 0))), (.op (some 14) none (.len .slice (.t 13))), (.op (some 15) none (.ibin .lss (.t 12) (.t 14)))]) (.cond (.t 15) .skip (.exit 0))) (.seq (.block 1 (.seq (.draw [⟨(.op (some 18) none (.move (.t 0))), []⟩, ⟨(.op (some 19) none (.move (.t 5))), []⟩, ⟨(.op (some 20) none (.idx 6 (.t 18) (.t 19))), []⟩, ⟨(.op (some 21) none (.load true 6 (.t 20))), []⟩, ⟨(.op (some 22) none (.move (.t 1))), []⟩, ⟨(.op (some 23) none (.move (.t 5))), []⟩, ⟨(.op (some 24) none (.idx 6 (.t 22) (.t 23))), []⟩, ⟨(.op (some 25) none (.load true 6 (.t 24))), []⟩, ⟨(.call (some 26) none (.c (.fn (.func 32) [] [])) [(.t 25)]), [0, 1, 2, 3]⟩, ⟨(.call (some 27) none (.c (.fn (.func 22) [] [])) [(.t 21), (.t 26)]), []⟩, ⟨(.op (some 6) none (.move (.t 27))), []⟩]) (.seq (.ops [(.op (some 28) none (.move (.t 6))), (.op (some 29) none (.not (.t 28)))]) (.cond (.t 29) (.seq (.ops [(.op (some 4) none (.move (.c (.v (.bool false)))))]) .ret) .skip)))) (.ops [(.op (some 16) none (.move (.t 5))), (.op (some 17) none (.ibin .add (.t 16) (.c (.v (.int .i64 1))))), (.op (some 5) none (.move (.t 17)))])))))) (.seq (.ops [(.op (some 4) none (.move (.c (.v (.bool true)))))]) .ret))))⟩
theorem cf33 : compFn Try.prog 33 [(6, [(0, []), (1, []), (2, []), (3, []), (4, []), (5, []), (6, []), (7, []), (8, [0, 1, 2, 3]), (9, []), (10, [])])] = some c33 := by kernel_rfl
def c35 : AFn := ⟨[(.c 6 6 true), (.t 7)], (.seq (.ops [(.op (some 5) none (.box (.t 2))), (.op (some 6) none (.alloc [(.v (.int .i64 0)), (.v (.int .i64 0)), (.v (.bool false)), (.v (.string (ByteArray.mk #[]))), (.v (.slice none 0 0)), (.v (.slice none 0 0))])), (.op (some 7) none (.move (.c (.v (.int .i64 0)))))]) (.seq (.ops [(.op (some 8) none (.move (.t 0))), (.op (some 9) none (.move (.t 1))), (.op (some 10) none (.load true 6 (.t 5))), (.call (some 11) none (.c (.fn (.func 89) [] [])) [(.c (.v (.int .i64 3))), (.t 8), (.t 9), (.t 10)]), (.op (some 12) none (.ext (.t 11) 0)), (.op (some 13) none (.ext (.t 11) 1)), (.op none none (.store 6 (.t 6) (.t 12))), (.op (some 7) none (.move (.t 13)))]) .ret))⟩
theorem cf35 : compFn Try.prog 35 [] = some c35 := by kernel_rfl
def c36 : AFn := ⟨[(.t 2)], (.seq (.ops [(.op (some 2) none (.move (.c (.v (.int .i64 0)))))]) (.seq (.ops [(.op (some 3) none (.move (.t 0))), (.op (some 2) none (.move (.t 3)))]) .ret))⟩
theorem cf36 : compFn Try.prog 36 [] = some c36 := by kernel_rfl
def c37 : AFn := ⟨[(.t 4), (.t 5), (.c 6 6 true), (.t 7)], (.seq (.ops [(.op (some 2) none (.box (.t 0))), (.op (some 4) none (.move (.c (.v (.slice none 0 0))))), (.op (some 5) none (.move (.c (.v (.slice none 0 0))))), (.op (some 6) none (.alloc [(.v (.int .i64 0)), (.v (.int .i64 0)), (.v (.bool false)), (.v (.string (ByteArray.mk #[]))), (.v (.slice none 0 0)), (.v (.slice none 0 0))])), (.op (some 7) none (.move (.c (.v (.bool false)))))]) (.seq (.seq (.ops [(.op (some 10) none (.move (.t 1))), (.op (some 11) none (.ibin .lss (.t 10) (.c (.v (.int .i64 0))))), (.op (some 12) none (.move (.t 11))), (.op (some 13) (some (12, false)) (.load true 6 (.t 2))), (.call (some 14) (some (12, false)) (.c (.fn (.func 24) [] [])) [(.t 13)]), (.op (some 15) (some (12, false)) (.ibin .neq (.t 14) (.c (.v (.int .i64 0))))), (.op (some 16) none (.pick (.t 12) (.c (.v (.bool true))) (.t 15)))]) (.cond (.t 16) (.seq (.ops [(.op (some 17) none (.build [(.v (.int .i64 0)), (.v (.int .i64 0)), (.v (.bool false)), (.v (.string (ByteArray.mk #[]))), (.v (.slice none 0 0)), (.v (.slice none 0 0))] [])), (.op (some 4) none (.move (.c (.v (.slice none 0 0))))), (.op (some 5) none (.move (.c (.v (.slice none 0 0))))), (.op none none (.store 6 (.t 6) (.t 17))), (.op (some 7) none (.move (.c (.v (.bool false)))))]) .ret) .skip)) (.seq (.ops [(.op (some 8) none (.move (.c (.v (.slice none 0 0)))))]) (.seq (.ops [(.op (some 9) none (.move (.c (.v (.slice none 0 0)))))]) (.seq (.seq (.ops [(.op (some 18) none (.move (.t 1))), (.op (some 19) none (.move (.c (.v (.int .i64 0)))))]) (.block 0 (.loop (.seq (.ops [(.op (some 20) none (.ibin .lss (.t 19) (.t 18)))]) (.seq (.cond (.t 20) .skip (.exit 0)) (.seq (.block 1 (.seq (.seq (.ops [(.op (some 21) none (.fld 0 (.t 2))), (.op (some 22) none (.load false 1 (.t 21))), (.op (some 23) none (.ibin .neq (.t 22) (.c (.v (.int .i64 3)))))]) (.cond (.t 23) (.seq (.ops [(.op (some 24) none (.build [(.v (.int .i64 0)), (.v (.int .i64 0)), (.v (.bool false)), (.v (.string (ByteArray.mk #[]))), (.v (.slice none 0 0)), (.v (.slice none 0 0))] [])), (.op (some 4) none (.move (.c (.v (.slice none 0 0))))), (.op (some 5) none (.move (.c (.v (.slice none 0 0))))), (.op none none (.store 6 (.t 6) (.t 24))), (.op (some 7) none (.move (.c (.v (.bool false)))))]) .ret) .skip)) (.seq (.draw [⟨(.op (some 25) none (.move (.t 8))), []⟩, ⟨(.op (some 26) none (.fld 5 (.t 2))), []⟩, ⟨(.op (some 27) none (.load false 1 (.t 26))), []⟩, ⟨(.op (some 28) none (.idx 6 (.t 27) (.c (.v (.int .i64 0))))), []⟩, ⟨(.op (some 29) none (.load true 6 (.t 28))), []⟩, ⟨(.op (some 33) none (.move (.t 9))), []⟩, ⟨(.op (some 34) none (.fld 2 (.t 2))), []⟩, ⟨(.op (some 35) none (.load false 1 (.t 34))), []⟩, ⟨(.op (some 36) none (.buildS 1 1 [(.v (.bool false))] [(0, (1, (.t 35)))])), []⟩, ⟨(.call (some 30) none (.c (.fn (.func 76) [] [])) [(.t 29)]), [0, 5, 6, 7, 8]⟩, ⟨(.op (some 31) none (.buildS 6 1 [(.v (.int .i64 0)), (.v (.int .i64 0)), (.v (.bool false)), (.v (.string (ByteArray.mk #[]))), (.v (.slice none 0 0)), (.v (.slice none 0 0))] [(0, (6, (.t 30)))])), []⟩, ⟨(.op (some 32) none (.append 6 88 (.t 25) (.t 31))), [5, 6, 7, 8]⟩, ⟨(.op (some 37) none (.append 1 1 (.t 33) (.t 36))), []⟩, ⟨(.op (some 8) none (.move (.t 32))), []⟩, ⟨(.op (some 9) none (.move (.t 37))), []⟩]) (.ops [(.op (some 38) none (.fld 5 (.t 2))), (.op (some 39) none (.load false 1 (.t 38))), (.op (some 40) none (.idx 6 (.t 39) (.c (.v (.int .i64 1))))), (.op (some 41) none (.load true 6 (.t 40))), (.op none none (.store 6 (.t 2) (.t 41)))])))) (.ops [(.op (some 42) none (.ibin .add (.t 19) (.c (.v (.int .i64 1))))), (.op (some 19) none (.move (.t 42)))]))))))) (.seq (.ops [(.op (some 43) none (.move (.t 8))), (.op (some 44) none (.move (.t 9))), (.op (some 45) none (.load true 6 (.t 2))), (.call (some 46) none (.c (.fn (.func 76) [] [])) [(.t 45)]), (.op (some 4) none (.move (.t 43))), (.op (some 5) none (.move (.t 44))), (.op none none (.store 6 (.t 6) (.t 46))), (.op (some 7) none (.move (.c (.v (.bool true)))))]) .ret))))))⟩
theorem cf37 : compFn Try.prog 37 [(9, [(0, []), (1, []), (2, []), (3, []), (4, []), (8, []), (9, []), (10, []), (11, []), (5, [0, 5, 6, 7, 8]), (6, []), (7, [5, 6, 7, 8]), (12, []), (13, []), (14, [])])] = some c37 := by kernel_rfl
def c88 : AFn := ⟨[(.c 2 6 true), (.t 3), (.t 4)], (.seq (.ops [(.op (some 1) none (.box (.t 0))), (.op (some 2) none (.alloc [(.v (.int .i64 0)), (.v (.int .i64 0)), (.v (.bool false)), (.v (.string (ByteArray.mk #[]))), (.v (.slice none 0 0)), (.v (.slice none 0 0))])), (.op (some 3) none (.move (.c (.v (.slice none 0 0))))), (.op (some 4) none (.move (.c (.v (.slice none 0 0)))))]) (.seq (.ops [(.op (some 5) none (.move (.c (.v (.slice none 0 0)))))]) (.seq (.ops [(.op (some 6) none (.move (.c (.v (.slice none 0 0)))))]) (.seq (.block 0 (.loop (.seq (.seq (.ops [(.op (some 7) none (.fld 0 (.t 1))), (.op (some 8) none (.load false 1 (.t 7))), (.op (some 9) none (.ibin .eql (.t 8) (.c (.v (.int .i64 5)))))]) (.cond (.t 9) .skip (.exit 0))) (.block 1 (.seq (.draw [⟨(.op (some 10) none (.move (.t 5))), []⟩, ⟨(.op (some 11) none (.fld 5 (.t 1))), []⟩, ⟨(.op (some 12) none (.load false 1 (.t 11))), []⟩, ⟨(.op (some 13) none (.idx 6 (.t 12) (.c (.v (.int .i64 1))))), []⟩, ⟨(.op (some 14) none (.load true 6 (.t 13))), []⟩, ⟨(.op (some 15) none (.buildS 6 1 [(.v (.int .i64 0)), (.v (.int .i64 0)), (.v (.bool false)), (.v (.string (ByteArray.mk #[]))), (.v (.slice none 0 0)), (.v (.slice none 0 0))] [(0, (6, (.t 14)))])), []⟩, ⟨(.op (some 17) none (.move (.t 6))), []⟩, ⟨(.op (some 18) none (.fld 2 (.t 1))), []⟩, ⟨(.op (some 19) none (.load false 1 (.t 18))), []⟩, ⟨(.op (some 20) none (.buildS 1 1 [(.v (.bool false))] [(0, (1, (.t 19)))])), []⟩, ⟨(.op (some 16) none (.append 6 88 (.t 10) (.t 15))), [6, 7, 8, 9]⟩, ⟨(.op (some 21) none (.append 1 1 (.t 17) (.t 20))), []⟩, ⟨(.op (some 5) none (.move (.t 16))), []⟩, ⟨(.op (some 6) none (.move (.t 21))), []⟩]) (.ops [(.op (some 22) none (.fld 5 (.t 1))), (.op (some 23) none (.load false 1 (.t 22))), (.op (some 24) none (.idx 6 (.t 23) (.c (.v (.int .i64 0))))), (.op (some 25) none (.load true 6 (.t 24))), (.op none none (.store 6 (.t 1) (.t 25)))])))))) (.seq (.ops [(.op (some 26) none (.move (.t 5))), (.call (some 27) none (.c (.fn (.func 133) [] [])) [(.t 26)])]) (.seq (.ops [(.op (some 28) none (.move (.t 6))), (.call (some 29) none (.c (.fn (.func 134) [] [])) [(.t 28)])]) (.seq (.ops [(.op (some 30) none (.load true 6 (.t 1))), (.op (some 31) none (.move (.t 5))), (.op (some 32) none (.move (.t 6))), (.op none none (.store 6 (.t 2) (.t 30))), (.op (some 3) none (.move (.t 31))), (.op (some 4) none (.move (.t 32)))]) .ret)))))))⟩
theorem cf88 : compFn Try.prog 88 [(4, [(0, []), (1, []), (2, []), (3, []), (4, []), (5, []), (7, []), (8, []), (9, []), (10, []), (6, [6, 7, 8, 9]), (11, []), (12, []), (13, [])])] = some c88 := by kernel_rfl
def c90 : AFn := ⟨[(.t 2)], (.seq (.ops [(.op (some 2) none (.move (.c (.v (.int .i64 0)))))]) (.seq (.seq (.ops [(.op (some 6) none (.move (.t 0))), (.op (some 7) none (.len .slice (.t 6))), (.op (some 8) none (.move (.c (.v (.int .i64 0)))))]) (.block 0 (.loop (.seq (.ops [(.op (some 9) none (.ibin .lss (.t 8) (.t 7)))]) (.seq (.cond (.t 9) .skip (.exit 0)) (.seq (.block 1 (.seq (.ops [(.op (some 10) none (.idx 6 (.t 6) (.t 8))), (.op (some 11) none (.load true 6 (.t 10))), (.op (some 4) none (.alloc [(.v (.int .i64 0)), (.v (.int .i64 0)), (.v (.bool false)), (.v (.string (ByteArray.mk #[]))), (.v (.slice none 0 0)), (.v (.slice none 0 0))])), (.op none none (.store 6 (.t 4) (.t 11)))]) (.seq (.ops [(.op (some 12) none (.load true 6 (.t 4))), (.call (some 13) none (.c (.fn (.func 24) [] [])) [(.t 12)]), (.op (some 5) none (.move (.t 13)))]) (.seq (.ops [(.op (some 14) none (.move (.t 5))), (.op (some 15) none (.ibin .neq (.t 14) (.c (.v (.int .i64 0)))))]) (.cond (.t 15) (.seq (.ops [(.op (some 16) none (.move (.t 5))), (.op (some 2) none (.move (.t 16)))]) .ret) .skip))))) (.ops [(.op (some 17) none (.ibin .add (.t 8) (.c (.v (.int .i64 1))))), (.op (some 8) none (.move (.t 17)))]))))))) (.seq (.ops [(.op (some 2) none (.move (.c (.v (.int .i64 0)))))]) .ret)))⟩
theorem cf90 : compFn Try.prog 90 [] = some c90 := by kernel_rfl
def c91 : AFn := ⟨[(.t 2)], (.seq (.ops [(.op (some 1) none (.box (.t 0))), (.op (some 2) none (.move (.c (.v .nilFunc))))]) (.seq (.ops [(.op (some 3) none (.func (.func 137) [] [(.t 1)])), (.op (some 2) none (.move (.t 3)))]) .ret))⟩
theorem cf91 : compFn Try.prog 91 [] = some c91 := by kernel_rfl
def c133 : AFn := ⟨[], (.seq (.ops [(.op (some 4) none (.move (.t 0))), (.op (some 5) none (.len .slice (.t 4))), (.op (some 6) none (.ibin .sub (.t 5) (.c (.v (.int .i64 1))))), (.op (some 2) none (.move (.c (.v (.int .i64 0))))), (.op (some 3) none (.move (.t 6)))]) (.block 0 (.loop (.seq (.seq (.ops [(.op (some 7) none (.move (.t 2))), (.op (some 8) none (.move (.t 3))), (.op (some 9) none (.ibin .lss (.t 7) (.t 8)))]) (.cond (.t 9) .skip (.exit 0))) (.seq (.block 1 (.draw [⟨(.op (some 14) none (.move (.t 0))), []⟩, ⟨(.op (some 15) none (.move (.t 2))), []⟩, ⟨(.op (some 16) none (.move (.t 0))), []⟩, ⟨(.op (some 17) none (.move (.t 3))), []⟩, ⟨(.op (some 18) none (.move (.t 0))), []⟩, ⟨(.op (some 19) none (.move (.t 3))), []⟩, ⟨(.op (some 20) none (.idx 6 (.t 18) (.t 19))), []⟩, ⟨(.op (some 21) none (.load true 6 (.t 20))), []⟩, ⟨(.op (some 22) none (.move (.t 0))), []⟩, ⟨(.op (some 23) none (.move (.t 2))), []⟩, ⟨(.op (some 24) none (.idx 6 (.t 22) (.t 23))), []⟩, ⟨(.op (some 25) none (.load true 6 (.t 24))), []⟩, ⟨(.op (some 26) none (.idx 6 (.t 14) (.t 15))), []⟩, ⟨(.op none none (.store 6 (.t 26) (.t 21))), [2, 3]⟩, ⟨(.op (some 27) none (.idx 6 (.t 16) (.t 17))), []⟩, ⟨(.op none none (.store 6 (.t 27) (.t 25))), []⟩])) (.ops [(.op (some 10) none (.move (.t 2))), (.op (some 11) none (.ibin .add (.t 10) (.c (.v (.int .i64 1))))), (.op (some 12) none (.move (.t 3))), (.op (some 13) none (.ibin .sub (.t 12) (.c (.v (.int .i64 1))))), (.op (some 2) none (.move (.t 11))), (.op (some 3) none (.move (.t 13)))]))))))⟩
theorem cf133 : compFn Try.prog 133 [(3, [(0, []), (1, []), (2, []), (3, []), (4, []), (5, []), (6, []), (7, []), (8, []), (9, []), (10, []), (11, []), (12, []), (13, [2, 3]), (14, []), (15, [])])] = some c133 := by kernel_rfl
def c134 : AFn := ⟨[], (.seq (.ops [(.op (some 4) none (.move (.t 0))), (.op (some 5) none (.len .slice (.t 4))), (.op (some 6) none (.ibin .sub (.t 5) (.c (.v (.int .i64 1))))), (.op (some 2) none (.move (.c (.v (.int .i64 0))))), (.op (some 3) none (.move (.t 6)))]) (.block 0 (.loop (.seq (.seq (.ops [(.op (some 7) none (.move (.t 2))), (.op (some 8) none (.move (.t 3))), (.op (some 9) none (.ibin .lss (.t 7) (.t 8)))]) (.cond (.t 9) .skip (.exit 0))) (.seq (.block 1 (.draw [⟨(.op (some 14) none (.move (.t 0))), []⟩, ⟨(.op (some 15) none (.move (.t 2))), []⟩, ⟨(.op (some 16) none (.move (.t 0))), []⟩, ⟨(.op (some 17) none (.move (.t 3))), []⟩, ⟨(.op (some 18) none (.move (.t 0))), []⟩, ⟨(.op (some 19) none (.move (.t 3))), []⟩, ⟨(.op (some 20) none (.idx 1 (.t 18) (.t 19))), []⟩, ⟨(.op (some 21) none (.load false 1 (.t 20))), []⟩, ⟨(.op (some 22) none (.move (.t 0))), []⟩, ⟨(.op (some 23) none (.move (.t 2))), []⟩, ⟨(.op (some 24) none (.idx 1 (.t 22) (.t 23))), []⟩, ⟨(.op (some 25) none (.load false 1 (.t 24))), []⟩, ⟨(.op (some 26) none (.idx 1 (.t 14) (.t 15))), []⟩, ⟨(.op none none (.store 1 (.t 26) (.t 21))), [2, 3]⟩, ⟨(.op (some 27) none (.idx 1 (.t 16) (.t 17))), []⟩, ⟨(.op none none (.store 1 (.t 27) (.t 25))), []⟩])) (.ops [(.op (some 10) none (.move (.t 2))), (.op (some 11) none (.ibin .add (.t 10) (.c (.v (.int .i64 1))))), (.op (some 12) none (.move (.t 3))), (.op (some 13) none (.ibin .sub (.t 12) (.c (.v (.int .i64 1))))), (.op (some 2) none (.move (.t 11))), (.op (some 3) none (.move (.t 13)))]))))))⟩
theorem cf134 : compFn Try.prog 134 [(3, [(0, []), (1, []), (2, []), (3, []), (4, []), (5, []), (6, []), (7, []), (8, []), (9, []), (10, []), (11, []), (12, []), (13, [2, 3]), (14, []), (15, [])])] = some c134 := by kernel_rfl
def c135 : AFn := ⟨[(.t 2)], (.seq (.ops [(.op (some 1) none (.box (.t 0))), (.op (some 2) none (.move (.c (.v .nilFunc))))]) (.seq (.ops [(.op (some 3) none (.func (.func 175) [] [(.t 1)])), (.op (some 2) none (.move (.t 3)))]) .ret))⟩
theorem cf135 : compFn Try.prog 135 [] = some c135 := by kernel_rfl
def c136 : AFn := ⟨[(.c 8 6 true)], (.seq (.ops [(.op (some 6) none (.box (.t 2))), (.op (some 7) none (.box (.t 3))), (.op (some 8) none (.alloc [(.v (.int .i64 0)), (.v (.int .i64 0)), (.v (.bool false)), (.v (.string (ByteArray.mk #[]))), (.v (.slice none 0 0)), (.v (.slice none 0 0))]))]) (.seq (.ops [(.op (some 9) none (.move (.t 0))), (.op (some 10) none (.move (.t 1))), (.op (some 11) none (.load true 6 (.t 6))), (.op (some 12) none (.load true 6 (.t 7))), (.op (some 13) none (.buildS 6 2 [(.v (.int .i64 0)), (.v (.int .i64 0)), (.v (.bool false)), (.v (.string (ByteArray.mk #[]))), (.v (.slice none 0 0)), (.v (.slice none 0 0)), (.v (.int .i64 0)), (.v (.int .i64 0)), (.v (.bool false)), (.v (.string (ByteArray.mk #[]))), (.v (.slice none 0 0)), (.v (.slice none 0 0))] [(0, (6, (.t 11))), (6, (6, (.t 12)))])), (.op (some 14) none (.build [(.v (.int .i64 0)), (.v (.int .i64 0)), (.v (.bool false)), (.v (.string (ByteArray.mk #[]))), (.v (.slice none 0 0)), (.v (.slice none 0 0))] [(0, (1, (.t 9))), (2, (1, (.t 10))), (5, (1, (.t 13)))])), (.op none none (.store 6 (.t 8) (.t 14)))]) .ret))⟩
theorem cf136 : compFn Try.prog 136 [] = some c136 := by kernel_rfl
def c137 : AFn := ⟨[(.t 3)], (.seq (.ops [(.op (some 3) none (.move (.c (.v (.bool false)))))]) (.seq (.ops [(.op (some 4) none (.move (.t 0))), (.op (some 5) none (.load false 1 (.t 1))), (.op (some 6) none (.len .slice (.t 5))), (.op (some 7) none (.ibin .lss (.t 4) (.t 6))), (.op (some 8) none (.move (.t 7))), (.op (some 9) (some (8, true)) (.load false 1 (.t 1))), (.op (some 10) (some (8, true)) (.move (.t 0))), (.op (some 11) (some (8, true)) (.idx 1 (.t 9) (.t 10))), (.op (some 12) (some (8, true)) (.load false 1 (.t 11))), (.op (some 13) none (.pick (.t 8) (.t 12) (.c (.v (.bool false))))), (.op (some 3) none (.move (.t 13)))]) .ret))⟩
theorem cf137 : compFn Try.prog 137 [] = some c137 := by kernel_rfl
def c175 : AFn := ⟨[], (.seq (.ops [(.op (some 4) none (.load false 1 (.t 1))), (.op (some 5) none (.len .slice (.t 4))), (.op (some 6) none (.ibin .sub (.t 5) (.c (.v (.int .i64 1))))), (.op (some 3) none (.move (.t 6)))]) (.block 0 (.loop (.seq (.seq (.ops [(.op (some 7) none (.move (.t 3))), (.op (some 8) none (.ibin .geq (.t 7) (.c (.v (.int .i64 0)))))]) (.cond (.t 8) .skip (.exit 0))) (.seq (.block 1 (.seq (.ops [(.op (some 11) none (.move (.t 0))), (.op (some 12) none (.move (.t 3))), (.op (some 13) none (.load false 1 (.t 1))), (.op (some 14) none (.move (.t 3))), (.op (some 15) none (.idx 6 (.t 13) (.t 14))), (.op (some 16) none (.load true 6 (.t 15))), (.call (some 17) none (.t 11) [(.t 12), (.t 16)]), (.op (some 18) none (.not (.t 17)))]) (.cond (.t 18) .ret .skip))) (.ops [(.op (some 9) none (.move (.t 3))), (.op (some 10) none (.ibin .sub (.t 9) (.c (.v (.int .i64 1))))), (.op (some 3) none (.move (.t 10)))]))))))⟩
theorem cf175 : compFn Try.prog 175 [] = some c175 := by kernel_rfl
end Go.Proofs.Ytooaiddfokbffaa.E

/- The reference's Lift and Exactly. Conditions: none. -/
set_option linter.unusedVariables false
set_option linter.unusedSimpArgs false
namespace Go.Proofs.Ytooaiddfokbffaa.E
open Go Go.Proofs
attribute [local go_sem] s_seq s_ops s_draw s_block s_skip s_ret s_exit i_nil i_cons i_run i_runG s_condQ c_true c_false aop ev_t ev_c updO_at updO_no upd_at t_normal t_ret t_exit b_normal b_ret b_exit a_some ac_v ac_agg ac_ptr ac_slc ac_ro ac_rop ac_fn new_next set_next argTm_zero argTm_succ argTm_nil ab_bool ab_uv beq_self_eq_true Option.some_beq_some Bool.not_not beq_iff_eq decide_true decide_false Bool.not_true Bool.not_false afld aload astore apack alen_str alen_ro alen_slc alen_nil new_get set_get ite_true ite_false Option.map_some Option.bind_some ibin isShift Nat.add_zero Nat.zero_add List.length_cons List.length_nil List.drop_zero List.drop_succ_cons List.take_succ_cons List.take_zero if_true if_false setL List.set_cons_zero List.set_cons_succ List.all_cons List.all_nil one_int one_bool one_str one_nil one_ptr one_slc one_ro one_rop one_fn Bool.and_self Bool.and_true true_and and_true and_self Bool.false_eq_true post_ret post_normal resAll resOne packR Option.some.injEq exists_eq_left' List.map_cons List.map_nil List.nil_append List.append_nil List.cons_append d_nil d_cons k_nil k_cons g_op g_same g_new avBlock forall_eq' List.getElem?_cons_succ List.getElem?_cons_zero List.getElem?_nil okind gOk bne false_imp_iff forall_const imp_self implies_true true_imp_iff i_callG

/-! ### Plain laws -/
mutual
theorem fit_clean (c high : Int) : ∀ t, fitT c high (cleanT t) = fitT c high t
  | .mk f n h s lv ks => by
    rw [cleanT, bare_mk, fitT, fitT]
    split
    · rfl
    · exact fit_cleanK (c + 1) (high + 1) ks
theorem fit_cleanK (c high : Int) : ∀ ks, fitK c high (cleanK ks) = fitK c high ks
  | [] => rfl
  | k :: r => by
    simp only [cleanK, fitK]
    rw [fit_clean c high k]
    split
    · exact fit_cleanK _ high r
    · rfl
end
theorem clean_form (t : Tm) : (cleanT t).form = t.form := by cases t; rfl
theorem head_clean (f : Int) : ∀ ks, headIs f (cleanK ks) = headIs f ks
  | [] => rfl
  | k :: r => by simp only [cleanK, headIs, clean_form]
theorem formF_clean (r : Lv → Bool) (f n : Int) (h : Bool) (s : ByteArray) (lv : List Lv) (ks : List Tm) : formF r (cleanT (.mk f n h s lv ks)) = formF r (.mk f n h s lv ks) := by
  rw [cleanT, bare_mk]
  by_cases hk : kidsF f = (ks.length : Int)
  · rw [formF_eq r _ _ _ _ _ _ hk, formF_eq r _ _ _ _ _ _ (by rw [cleanK_len]; exact hk), head_clean]
    by_cases h1 : f = 1 ∨ f = 11
    · rw [if_pos h1, if_pos h1, if_pos h1]
    · rw [if_neg h1, if_neg h1]
      by_cases h2 : f = 2
      · subst h2; rfl
      · by_cases h10 : f = 10
        · subst h10; rfl
        · rw [if_neg h2, if_neg h2, if_neg h10, if_neg h10]
  · unfold formF
    rw [if_pos (by show kidsF f ≠ ((cleanK ks).length : Int); rw [cleanK_len]; exact hk), if_pos (by exact hk)]
mutual
theorem allF_clean (r : Lv → Bool) : ∀ t, allF (formF r) (cleanT t) = allF (formF r) t
  | .mk f n h s lv ks => by
    have h1 := formF_clean r f n h s lv ks
    rw [cleanT, bare_mk] at h1 ⊢
    simp only [allF]
    rw [h1, allF_cleanK r ks]
theorem allF_cleanK (r : Lv → Bool) : ∀ ks, allK (formF r) (cleanK ks) = allK (formF r) ks
  | [] => rfl
  | k :: q => by simp only [cleanK, allK]; rw [allF_clean r k, allF_cleanK r q]
end
mutual
theorem clean_rl (fr by_ deep : Int) : ∀ t, Tm.All Vk t → cleanT (rlT (fr + deep) by_ t) = liftT fr by_ deep t
  | .mk f n h s lv ks, ha => by
    simp only [Tm.All, Vk, Tm.form, Tm.kids] at ha
    rw [rlT]
    by_cases hf : f = 1 ∧ n ≥ fr + deep
    · rw [if_pos hf, lift_var _ _ _ hf]
      obtain ⟨rfl, _⟩ := hf
      obtain rfl := ha.1 rfl
      rfl
    · rw [if_neg hf, lift_node _ _ _ hf, cleanT, clean_rlK fr by_ f deep ks 0 ha.2, bare_mk, bare_mk]
theorem clean_rlK (fr by_ f deep : Int) : ∀ (ks : List Tm) (i : Nat), Tm.AllL Vk ks → cleanK (rlK (fr + deep) by_ f i ks) = liftK fr by_ f i deep ks
  | [], _, _ => rfl
  | k :: r, i, ha => by
    simp only [Tm.AllL] at ha
    simp only [rlK, cleanK, liftK]
    rw [underF_add', clean_rl fr by_ _ k ha.1, clean_rlK fr by_ f deep r (i + 1) ha.2]
end
def wholeF (t : Tm) : Tm × Int := if ¬ checkF canF t = 0 then (zeroTm, 2) else (cleanT t, 0)
/-! ### The code -/
end Go.Proofs.Ytooaiddfokbffaa.E

/- The reference's Exactly, of one term. Conditions: none. -/
set_option linter.unusedVariables false
set_option linter.unusedSimpArgs false
namespace Go.Proofs.Ytooaiddfokbffaa.E
open Go Go.Proofs
attribute [local go_sem] s_seq s_ops s_draw s_block s_skip s_ret s_exit i_nil i_cons i_run i_runG s_condQ c_true c_false aop ev_t ev_c updO_at updO_no upd_at t_normal t_ret t_exit b_normal b_ret b_exit a_some ac_v ac_agg ac_ptr ac_slc ac_ro ac_rop ac_fn new_next set_next argTm_zero argTm_succ argTm_nil ab_bool ab_uv beq_self_eq_true Option.some_beq_some Bool.not_not beq_iff_eq decide_true decide_false Bool.not_true Bool.not_false afld aload astore apack alen_str alen_ro alen_slc alen_nil new_get set_get ite_true ite_false Option.map_some Option.bind_some ibin isShift Nat.add_zero Nat.zero_add List.length_cons List.length_nil List.drop_zero List.drop_succ_cons List.take_succ_cons List.take_zero if_true if_false setL List.set_cons_zero List.set_cons_succ List.all_cons List.all_nil one_int one_bool one_str one_nil one_ptr one_slc one_ro one_rop one_fn Bool.and_self Bool.and_true true_and and_true and_self Bool.false_eq_true post_ret post_normal resAll resOne packR Option.some.injEq exists_eq_left' List.map_cons List.map_nil List.nil_append List.append_nil List.cons_append d_nil d_cons k_nil k_cons g_op g_same g_new avBlock forall_eq' List.getElem?_cons_succ List.getElem?_cons_zero List.getElem?_nil okind gOk bne false_imp_iff forall_const imp_self implies_true true_imp_iff i_callG

theorem aeqs_self (a b : Int) : aeqs [.int, .int] [aint a, aint b] [aint a, aint b] = some true := by simp [aeqs]
set_option maxRecDepth 100000 in
theorem exL_ok (l : Lv) (x y : AV) (xs ys : List AV) (h1 : SlR l.vars.length x xs) (h2 : VarsR l.vars xs) (g1 : SlR l.vars.length y ys) (g2 : VarsR l.vars ys) (hn : l.vars.length ≤ 4611686018427387904) (H : AHeap) :
    SCall Try.prog 80 [.agg [aint l.n, x], .agg [aint l.n, y]] H fun x H' => x = abl true ∧ H' = H := by
  refine SCall.val (SCall.intro mixed cf80 ?_)
  have e1 : ¬ H.next = H.next + 1 := by omega
  have e2 : ¬ H.next + 1 = H.next := by omega
  simp -implicitDefEqProofs only [c80, go_sem, Nat.reduceEqDiff, Nat.reduceAdd, Nat.reduceLeDiff, ↓reduceIte, reduceCtorEq, Int.reduceBEq, Int.reduceBNe, Int.reduceLT, Int.reduceLE, Int.reduceGT, Int.reduceGE, Int.reduceNeg, Int.reduceAdd, Int.reduceSub, Nat.reduceMul, Nat.reduceLT, Int.reduceToNat, h1.one, h1.cells, g1.one, g1.cells, e1, e2, fun H => h1.alen H, fun H => g1.alen H]
  refine swp_range l.vars.length (fun i st => st.tm 2 = .ptr H.next 0 ∧ st.tm 3 = .ptr (H.next + 1) 0 ∧ st.tm 5 = aint i ∧ Ext H st.heap ∧ st.heap.get H.next = some (.cells [aint l.n, x]) ∧ st.heap.get (H.next + 1) = some (.cells [aint l.n, y])) ?_ ?_ ?_
  · exact ⟨rfl, rfl, rfl, ((Ext.refl H).new _).new _, by simp -implicitDefEqProofs only [go_sem, Nat.reduceEqDiff, Nat.reduceAdd, Nat.reduceLeDiff, ↓reduceIte, reduceCtorEq, Int.reduceBEq, Int.reduceBNe, Int.reduceLT, Int.reduceLE, Int.reduceGT, Int.reduceGE, Int.reduceNeg, Int.reduceAdd, Int.reduceSub, Nat.reduceMul, Nat.reduceLT, Int.reduceToNat, e1], by simp -implicitDefEqProofs only [go_sem, Nat.reduceEqDiff, Nat.reduceAdd, Nat.reduceLeDiff, ↓reduceIte, reduceCtorEq, Int.reduceBEq, Int.reduceBNe, Int.reduceLT, Int.reduceLE, Int.reduceGT, Int.reduceGE, Int.reduceNeg, Int.reduceAdd, Int.reduceSub, Nat.reduceMul, Nat.reduceLT, Int.reduceToNat]⟩
  · rintro i ⟨tm, H2⟩ hi ⟨t2, t3, t5, hE, hg0, hg1⟩
    simp only at t2 t3 t5 hE hg0 hg1
    have hltI : (i : Int) < (l.vars.length : Int) := by omega
    have hix := h1.aix 2 hi
    have hix' := g1.aix 2 hi
    obtain ⟨hle, hld⟩ := h2.at hi
    obtain ⟨hle', hld'⟩ := g2.at hi
    have w3 : IntKind.i64.wrap ((i : Int) + 1) = (i : Int) + 1 := i64_ok _ (by omega)
    simp -implicitDefEqProofs only [go_sem, Nat.reduceEqDiff, Nat.reduceAdd, Nat.reduceLeDiff, ↓reduceIte, reduceCtorEq, Int.reduceBEq, Int.reduceBNe, Int.reduceLT, Int.reduceLE, Int.reduceGT, Int.reduceGE, Int.reduceNeg, Int.reduceAdd, Int.reduceSub, Nat.reduceMul, Nat.reduceLT, Int.reduceToNat, t2, t3, t5, hg0, hg1, fun H => h1.alen H, hltI, hix, hix', hle, hld, hle', hld', w3, aeqs_self]
    exact ⟨by simp, hE⟩
  · rintro ⟨tm, H2⟩ ⟨t2, t3, t5, hE, hg0, hg1⟩
    simp only at t2 t3 t5 hE hg0 hg1
    simp -implicitDefEqProofs only [go_sem, Nat.reduceEqDiff, Nat.reduceAdd, Nat.reduceLeDiff, ↓reduceIte, reduceCtorEq, Int.reduceBEq, Int.reduceBNe, Int.reduceLT, Int.reduceLE, Int.reduceGT, Int.reduceGE, Int.reduceNeg, Int.reduceAdd, Int.reduceSub, Nat.reduceMul, Nat.reduceLT, Int.reduceToNat, t2, t3, t5, hg0, fun H => h1.alen H, Int.lt_irrefl]
    exact hE

set_option maxRecDepth 100000 in
theorem exact_ok : ∀ t, Tm.All TmB t → ∀ (ac bc : List AV), TmR t ac → TmR t bc → ∀ (H : AHeap), SCall Try.prog 22 [.agg ac, .agg bc] H fun x H' => x = abl true ∧ H' = H := by
  refine Tm.rule fun f n hid s lv ks ih ha ac bc hA hB H => ?_
  obtain ⟨lx, kx, ls, cs, rfl, hl1, hl2, hk1, hk2⟩ := hA.six
  obtain ⟨lx', kx', ls', cs', rfl, hl1', hl2', hk1', hk2'⟩ := hB.six
  simp only [Tm.All, TmB, Tm.form, Tm.n, Tm.hid, Tm.name, Tm.lv, Tm.kids] at *
  obtain ⟨⟨_, _, a1, a2, a3, a4⟩, a5⟩ := ha
  refine SCall.val (SCall.intro mixed cf22 ?_)
  have e1 : ¬ H.next = H.next + 1 := by omega
  have e2 : ¬ H.next + 1 = H.next := by omega
  have lal : ∀ G, alen G .slice lx = some lv.length := fun G => hl1.alen G
  have lal' : ∀ G, alen G .slice lx' = some lv.length := fun G => hl1'.alen G
  have kal : ∀ G, alen G .slice kx = some ks.length := fun G => hk1.alen G
  have kal' : ∀ G, alen G .slice kx' = some ks.length := fun G => hk1'.alen G
  simp -implicitDefEqProofs only [c22, go_sem, Nat.reduceEqDiff, Nat.reduceAdd, Nat.reduceLeDiff, ↓reduceIte, reduceCtorEq, Int.reduceBEq, Int.reduceBNe, Int.reduceLT, Int.reduceLE, Int.reduceGT, Int.reduceGE, Int.reduceNeg, Int.reduceAdd, Int.reduceSub, Nat.reduceMul, Nat.reduceLT, Int.reduceToNat, hl1.one, hl1.cells, hk1.one, hk1.cells, hl1'.one, hl1'.cells, hk1'.one, hk1'.cells, e1, e2, lal, lal', kal, kal', sbin]
  refine swp_range lv.length (fun i st => st.tm 2 = .ptr H.next 0 ∧ st.tm 3 = .ptr (H.next + 1) 0 ∧ st.tm 5 = aint i ∧ Ext H st.heap ∧ st.heap.get H.next = some (.cells [aint f, aint n, abl hid, .v (.string s), lx, kx]) ∧ st.heap.get (H.next + 1) = some (.cells [aint f, aint n, abl hid, .v (.string s), lx', kx'])) ?_ ?_ ?_
  · exact ⟨rfl, rfl, rfl, ((Ext.refl H).new _).new _, by simp -implicitDefEqProofs only [go_sem, Nat.reduceEqDiff, Nat.reduceAdd, Nat.reduceLeDiff, ↓reduceIte, reduceCtorEq, Int.reduceBEq, Int.reduceBNe, Int.reduceLT, Int.reduceLE, Int.reduceGT, Int.reduceGE, Int.reduceNeg, Int.reduceAdd, Int.reduceSub, Nat.reduceMul, Nat.reduceLT, Int.reduceToNat, e1], by simp -implicitDefEqProofs only [go_sem, Nat.reduceEqDiff, Nat.reduceAdd, Nat.reduceLeDiff, ↓reduceIte, reduceCtorEq, Int.reduceBEq, Int.reduceBNe, Int.reduceLT, Int.reduceLE, Int.reduceGT, Int.reduceGE, Int.reduceNeg, Int.reduceAdd, Int.reduceSub, Nat.reduceMul, Nat.reduceLT, Int.reduceToNat]⟩
  · rintro i ⟨tm, H2⟩ hi ⟨t2, t3, t5, hE, hg0, hg1⟩
    simp only at t2 t3 t5 hE hg0 hg1
    have hltI : (i : Int) < (lv.length : Int) := by omega
    have hix := hl1.aix 2 hi
    have hix' := hl1'.aix 2 hi
    obtain ⟨vx, vs, hle, hld, hv1, hv2⟩ := hl2.at (List.getElem?_eq_getElem hi)
    obtain ⟨wx, ws, hle', hld', hw1, hw2⟩ := hl2'.at (List.getElem?_eq_getElem hi)
    have w3 : IntKind.i64.wrap ((i : Int) + 1) = (i : Int) + 1 := i64_ok _ (by omega)
    have hb := (a4 _ (List.getElem_mem hi)).2.1
    simp -implicitDefEqProofs only [go_sem, Nat.reduceEqDiff, Nat.reduceAdd, Nat.reduceLeDiff, ↓reduceIte, reduceCtorEq, Int.reduceBEq, Int.reduceBNe, Int.reduceLT, Int.reduceLE, Int.reduceGT, Int.reduceGE, Int.reduceNeg, Int.reduceAdd, Int.reduceSub, Nat.reduceMul, Nat.reduceLT, Int.reduceToNat, t2, t3, t5, hg0, hg1, lal, hltI, hix, hix', hle, hld, hle', hld', hv1.one, hv1.cells, hw1.one, hw1.cells]
    refine i_callA (fs := []) (cs := []) (fid := 80) ?_ ?_ (exL_ok lv[i] vx wx vs ws hv1 hv2 hw1 hw2 (by omega) _) ?_
    · rfl
    · simp -implicitDefEqProofs only [go_sem, Nat.reduceEqDiff, Nat.reduceAdd, Nat.reduceLeDiff, ↓reduceIte, reduceCtorEq, Int.reduceBEq, Int.reduceBNe, Int.reduceLT, Int.reduceLE, Int.reduceGT, Int.reduceGE, Int.reduceNeg, Int.reduceAdd, Int.reduceSub, Nat.reduceMul, Nat.reduceLT, Int.reduceToNat]
    rintro x H3 ⟨rfl, rfl⟩
    simp -implicitDefEqProofs only [go_sem, Nat.reduceEqDiff, Nat.reduceAdd, Nat.reduceLeDiff, ↓reduceIte, reduceCtorEq, Int.reduceBEq, Int.reduceBNe, Int.reduceLT, Int.reduceLE, Int.reduceGT, Int.reduceGE, Int.reduceNeg, Int.reduceAdd, Int.reduceSub, Nat.reduceMul, Nat.reduceLT, Int.reduceToNat, t2, t3, t5, hg0, hg1, lal, hltI, hix, hix', hle, hld, hle', hld', hv1.one, hv1.cells, hw1.one, hw1.cells, w3]
    exact ⟨by simp, hE⟩
  · rintro ⟨tm, H2⟩ ⟨t2, t3, t5, hE, hg0, hg1⟩
    simp only at t2 t3 t5 hE hg0 hg1
    simp -implicitDefEqProofs only [go_sem, Nat.reduceEqDiff, Nat.reduceAdd, Nat.reduceLeDiff, ↓reduceIte, reduceCtorEq, Int.reduceBEq, Int.reduceBNe, Int.reduceLT, Int.reduceLE, Int.reduceGT, Int.reduceGE, Int.reduceNeg, Int.reduceAdd, Int.reduceSub, Nat.reduceMul, Nat.reduceLT, Int.reduceToNat, t2, t3, t5, hg0, lal, Int.lt_irrefl]
    refine swp_range ks.length (fun i st => st.tm 2 = .ptr H.next 0 ∧ st.tm 3 = .ptr (H.next + 1) 0 ∧ st.tm 7 = aint i ∧ Ext H st.heap ∧ st.heap.get H.next = some (.cells [aint f, aint n, abl hid, .v (.string s), lx, kx]) ∧ st.heap.get (H.next + 1) = some (.cells [aint f, aint n, abl hid, .v (.string s), lx', kx'])) ?_ ?_ ?_
    · refine ⟨?_, ?_, rfl, hE, hg0, hg1⟩
      all_goals simp -implicitDefEqProofs only [go_sem, Nat.reduceEqDiff, Nat.reduceAdd, Nat.reduceLeDiff, ↓reduceIte, reduceCtorEq, Int.reduceBEq, Int.reduceBNe, Int.reduceLT, Int.reduceLE, Int.reduceGT, Int.reduceGE, Int.reduceNeg, Int.reduceAdd, Int.reduceSub, Nat.reduceMul, Nat.reduceLT, Int.reduceToNat, t2, t3]
    · rintro i ⟨tm, H5⟩ hi ⟨t2, t3, t7, hE, hg0, hg1⟩
      simp only at t2 t3 t7 hE hg0 hg1
      have hltI : (i : Int) < (ks.length : Int) := by omega
      have hix := hk1.aix 6 hi
      have hix' := hk1'.aix 6 hi
      obtain ⟨kc, hkc, hle, hld⟩ := hk2.load (List.getElem?_eq_getElem hi)
      obtain ⟨kc', hkc', hle', hld'⟩ := hk2'.load (List.getElem?_eq_getElem hi)
      have w3 : IntKind.i64.wrap ((i : Int) + 1) = (i : Int) + 1 := i64_ok _ (by omega)
      have hkm := List.getElem_mem hi
      simp -implicitDefEqProofs only [go_sem, Nat.reduceEqDiff, Nat.reduceAdd, Nat.reduceLeDiff, ↓reduceIte, reduceCtorEq, Int.reduceBEq, Int.reduceBNe, Int.reduceLT, Int.reduceLE, Int.reduceGT, Int.reduceGE, Int.reduceNeg, Int.reduceAdd, Int.reduceSub, Nat.reduceMul, Nat.reduceLT, Int.reduceToNat, t2, t3, t7, hg0, hg1, kal, hltI, hix, hix', hle, hld, hle', hld']
      refine i_callA (fs := []) (cs := []) (fid := 22) ?_ ?_ (ih ks[i] hkm (a5.mem _ hkm) _ _ hkc hkc' _) ?_
      · rfl
      · simp -implicitDefEqProofs only [go_sem, Nat.reduceEqDiff, Nat.reduceAdd, Nat.reduceLeDiff, ↓reduceIte, reduceCtorEq, Int.reduceBEq, Int.reduceBNe, Int.reduceLT, Int.reduceLE, Int.reduceGT, Int.reduceGE, Int.reduceNeg, Int.reduceAdd, Int.reduceSub, Nat.reduceMul, Nat.reduceLT, Int.reduceToNat]
      rintro x H3 ⟨rfl, rfl⟩
      simp -implicitDefEqProofs only [go_sem, Nat.reduceEqDiff, Nat.reduceAdd, Nat.reduceLeDiff, ↓reduceIte, reduceCtorEq, Int.reduceBEq, Int.reduceBNe, Int.reduceLT, Int.reduceLE, Int.reduceGT, Int.reduceGE, Int.reduceNeg, Int.reduceAdd, Int.reduceSub, Nat.reduceMul, Nat.reduceLT, Int.reduceToNat, t2, t3, t7, hg0, hg1, kal, hltI, hix, hix', hle, hld, hle', hld', w3]
      exact ⟨by simp, hE⟩
    · rintro ⟨tm, H5⟩ ⟨t2, t3, t7, hE, hg0, hg1⟩
      simp only at t2 t3 t7 hE hg0 hg1
      simp -implicitDefEqProofs only [go_sem, Nat.reduceEqDiff, Nat.reduceAdd, Nat.reduceLeDiff, ↓reduceIte, reduceCtorEq, Int.reduceBEq, Int.reduceBNe, Int.reduceLT, Int.reduceLE, Int.reduceGT, Int.reduceGE, Int.reduceNeg, Int.reduceAdd, Int.reduceSub, Nat.reduceMul, Nat.reduceLT, Int.reduceToNat, t2, t3, t7, hg0, kal, Int.lt_irrefl]
      exact hE
end Go.Proofs.Ytooaiddfokbffaa.E

/- Small helpers of telescopes: big, same, ask, hidden, Bind. Conditions: none. -/
set_option linter.unusedVariables false
set_option linter.unusedSimpArgs false
namespace Go.Proofs.Ytooaiddfokbffaa.E
open Go Go.Proofs
attribute [local go_sem] s_seq s_ops s_draw s_block s_skip s_ret s_exit i_nil i_cons i_run i_runG s_condQ c_true c_false aop ev_t ev_c updO_at updO_no upd_at t_normal t_ret t_exit b_normal b_ret b_exit a_some ac_v ac_agg ac_ptr ac_slc ac_ro ac_rop ac_fn new_next set_next argTm_zero argTm_succ argTm_nil ab_bool ab_uv beq_self_eq_true Option.some_beq_some Bool.not_not beq_iff_eq decide_true decide_false Bool.not_true Bool.not_false afld aload astore apack alen_str alen_ro alen_slc alen_nil new_get set_get ite_true ite_false Option.map_some Option.bind_some ibin isShift Nat.add_zero Nat.zero_add List.length_cons List.length_nil List.drop_zero List.drop_succ_cons List.take_succ_cons List.take_zero if_true if_false setL List.set_cons_zero List.set_cons_succ List.all_cons List.all_nil one_int one_bool one_str one_nil one_ptr one_slc one_ro one_rop one_fn Bool.and_self Bool.and_true true_and and_true and_self Bool.false_eq_true post_ret post_normal resAll resOne packR Option.some.injEq exists_eq_left' List.map_cons List.map_nil List.nil_append List.append_nil List.cons_append d_nil d_cons k_nil k_cons g_op g_same g_new avBlock forall_eq' List.getElem?_cons_succ List.getElem?_cons_zero List.getElem?_nil okind gOk bne false_imp_iff forall_const imp_self implies_true true_imp_iff i_callG

def bigL (l : List Tm) : Bool := decide (l.length > 100) || l.any bigF

theorem cleanK_get : ∀ (ks : List Tm) (i : Nat) (hi : i < ks.length), (cleanK ks)[i]? = some (cleanT ks[i])
  | k :: r, 0, _ => rfl
  | k :: r, i + 1, hi => by
    simp only [cleanK, List.getElem?_cons_succ, List.getElem_cons_succ]
    exact cleanK_get r i (by simpa using hi)

set_option maxRecDepth 100000 in
theorem sameL_ok (ks : List Tm) (ha : Tm.AllL TmB ks) (x : AV) (cs : List AV) (h1 : SlR ks.length x cs) (h2 : KsR (cleanK ks) cs) (y : AV) (ds : List AV) (g1 : SlR ks.length y ds) (g2 : KsR ks ds) (go : ∀ z ∈ ds, Old 0 z) (hn : ks.length ≤ 4611686018427387904) (H : AHeap) :
    SCall Try.prog 33 [x, y] H fun z H' => z = abl true ∧ H' = H := by
  have kal : ∀ G, alen G .slice x = some ks.length := fun G => h1.alen G
  have kal' : ∀ G, alen G .slice y = some ks.length := fun G => g1.alen G
  refine SCall.val (SCall.intro mixed cf33 ?_)
  simp -implicitDefEqProofs only [c33, go_sem, Nat.reduceEqDiff, Nat.reduceAdd, Nat.reduceLeDiff, ↓reduceIte, reduceCtorEq, Int.reduceBEq, Int.reduceBNe, Int.reduceLT, Int.reduceLE, Int.reduceGT, Int.reduceGE, Int.reduceNeg, Int.reduceAdd, Int.reduceSub, Nat.reduceMul, Nat.reduceLT, Int.reduceToNat, kal, kal']
  refine swp_range ks.length (fun i st => st.tm 0 = x ∧ st.tm 1 = y ∧ st.tm 5 = aint i ∧ st.heap = H) ?_ ?_ ?_
  · exact ⟨rfl, rfl, rfl, rfl⟩
  · rintro i ⟨tm, H2⟩ hi ⟨t0, t1, t5, hh⟩
    simp only at t0 t1 t5 hh
    subst hh
    have hltI : (i : Int) < (ks.length : Int) := by omega
    have hix := h1.aix 6 hi
    have hix' := g1.aix 6 hi
    obtain ⟨kc, hkc, hle, hld⟩ := h2.load (cleanK_get ks i hi)
    obtain ⟨dc, hdc, hle', hld'⟩ := g2.load (List.getElem?_eq_getElem hi)
    have hkm := List.getElem_mem hi
    have hdP : TmP ks[i] dc := ⟨hdc, fun z hz => go z (by rw [← hld'] at hz; exact List.mem_of_mem_drop (List.mem_of_mem_take hz))⟩
    have w3 : IntKind.i64.wrap ((i : Int) + 1) = (i : Int) + 1 := i64_ok _ (by omega)
    simp -implicitDefEqProofs only [go_sem, Nat.reduceEqDiff, Nat.reduceAdd, Nat.reduceLeDiff, ↓reduceIte, reduceCtorEq, Int.reduceBEq, Int.reduceBNe, Int.reduceLT, Int.reduceLE, Int.reduceGT, Int.reduceGE, Int.reduceNeg, Int.reduceAdd, Int.reduceSub, Nat.reduceMul, Nat.reduceLT, Int.reduceToNat, t0, t1, t5, kal, hltI, hix, hle, hld, hix', hle', hld']
    refine i_callA (fs := []) (cs := []) (fid := 32) ?_ ?_ (clean_ok ks[i] (ha.mem _ hkm) _ hdP _) ?_
    · rfl
    · simp -implicitDefEqProofs only [go_sem, Nat.reduceEqDiff, Nat.reduceAdd, Nat.reduceLeDiff, ↓reduceIte, reduceCtorEq, Int.reduceBEq, Int.reduceBNe, Int.reduceLT, Int.reduceLE, Int.reduceGT, Int.reduceGE, Int.reduceNeg, Int.reduceAdd, Int.reduceSub, Nat.reduceMul, Nat.reduceLT, Int.reduceToNat]
    rintro z H3 ⟨⟨xc, rfl, hxc⟩, hHH⟩
    have hHH := hHH.symm
    subst hHH
    simp -implicitDefEqProofs only [go_sem, Nat.reduceEqDiff, Nat.reduceAdd, Nat.reduceLeDiff, ↓reduceIte, reduceCtorEq, Int.reduceBEq, Int.reduceBNe, Int.reduceLT, Int.reduceLE, Int.reduceGT, Int.reduceGE, Int.reduceNeg, Int.reduceAdd, Int.reduceSub, Nat.reduceMul, Nat.reduceLT, Int.reduceToNat, t0, t1, t5, kal, hltI, hix, hle, hld, hix', hle', hld']
    refine i_callA (fs := []) (cs := []) (fid := 22) ?_ ?_ (exact_ok (cleanT ks[i]) (tmb_clean _ (ha.mem _ hkm)) _ _ hkc hxc.1 _) ?_
    · rfl
    · simp -implicitDefEqProofs only [go_sem, Nat.reduceEqDiff, Nat.reduceAdd, Nat.reduceLeDiff, ↓reduceIte, reduceCtorEq, Int.reduceBEq, Int.reduceBNe, Int.reduceLT, Int.reduceLE, Int.reduceGT, Int.reduceGE, Int.reduceNeg, Int.reduceAdd, Int.reduceSub, Nat.reduceMul, Nat.reduceLT, Int.reduceToNat]
    rintro z H3 ⟨rfl, hHH⟩
    have hHH := hHH.symm
    subst hHH
    simp -implicitDefEqProofs only [go_sem, Nat.reduceEqDiff, Nat.reduceAdd, Nat.reduceLeDiff, ↓reduceIte, reduceCtorEq, Int.reduceBEq, Int.reduceBNe, Int.reduceLT, Int.reduceLE, Int.reduceGT, Int.reduceGE, Int.reduceNeg, Int.reduceAdd, Int.reduceSub, Nat.reduceMul, Nat.reduceLT, Int.reduceToNat, t0, t1, t5, w3]
    simp
  · rintro ⟨tm, H2⟩ ⟨t0, t1, t5, hh⟩
    simp only at t0 t1 t5 hh
    subst hh
    simp -implicitDefEqProofs only [go_sem, Nat.reduceEqDiff, Nat.reduceAdd, Nat.reduceLeDiff, ↓reduceIte, reduceCtorEq, Int.reduceBEq, Int.reduceBNe, Int.reduceLT, Int.reduceLE, Int.reduceGT, Int.reduceGE, Int.reduceNeg, Int.reduceAdd, Int.reduceSub, Nat.reduceMul, Nat.reduceLT, Int.reduceToNat, t0, t1, t5, kal, Int.lt_irrefl]
    exact Ext.refl _

/-- What ask answers: the first term's error. -/
def askF : List Tm → Int
  | [] => 0
  | k :: r => if checkF canF k = 0 then askF r else checkF canF k

set_option maxRecDepth 100000 in
theorem ask_ok (ks : List Tm) (ha : Tm.AllL TmB ks) (x : AV) (cs : List AV) (h1 : SlR ks.length x cs) (h2 : KsR ks cs) (hn : ks.length ≤ 4611686018427387904) (H : AHeap) :
    SCall Try.prog 90 [x] H fun y H' => y = aint (askF ks) ∧ H' = H := by
  have kal : ∀ G, alen G .slice x = some ks.length := fun G => h1.alen G
  refine SCall.val (SCall.intro mixed cf90 ?_)
  simp -implicitDefEqProofs only [c90, go_sem, Nat.reduceEqDiff, Nat.reduceAdd, Nat.reduceLeDiff, ↓reduceIte, reduceCtorEq, Int.reduceBEq, Int.reduceBNe, Int.reduceLT, Int.reduceLE, Int.reduceGT, Int.reduceGE, Int.reduceNeg, Int.reduceAdd, Int.reduceSub, Nat.reduceMul, Nat.reduceLT, Int.reduceToNat, kal]
  refine swp_range ks.length (fun i st => st.tm 6 = x ∧ st.tm 7 = aint ks.length ∧ st.tm 8 = aint i ∧ Ext H st.heap ∧ askF ks = askF (ks.drop i)) ?_ ?_ ?_
  · exact ⟨rfl, rfl, rfl, Ext.refl H, rfl⟩
  · rintro i ⟨tm, H2⟩ hi ⟨t6, t7, t8, hE, hr⟩
    simp only at t6 t7 t8 hE
    have hltI : (i : Int) < (ks.length : Int) := by omega
    have hix := h1.aix 6 hi
    obtain ⟨kc, hkc, hle, hld⟩ := h2.load (List.getElem?_eq_getElem hi)
    have hkm := List.getElem_mem hi
    obtain ⟨ux, vx, us, vs, hk6, hu1, hu2, hv1, hv2⟩ := hkc.six
    have w3 : IntKind.i64.wrap ((i : Int) + 1) = (i : Int) + 1 := i64_ok _ (by omega)
    have hdrop : ks.drop i = ks[i] :: ks.drop (i + 1) := List.drop_eq_getElem_cons hi
    rw [hdrop, askF] at hr
    subst hk6
    simp -implicitDefEqProofs only [go_sem, Nat.reduceEqDiff, Nat.reduceAdd, Nat.reduceLeDiff, ↓reduceIte, reduceCtorEq, Int.reduceBEq, Int.reduceBNe, Int.reduceLT, Int.reduceLE, Int.reduceGT, Int.reduceGE, Int.reduceNeg, Int.reduceAdd, Int.reduceSub, Nat.reduceMul, Nat.reduceLT, Int.reduceToNat, t6, t7, t8, hltI, hix, hle, hld, hu1.one, hu1.cells, hv1.one, hv1.cells]
    refine i_callA (fs := []) (cs := []) (fid := 24) ?_ ?_ (check_ok canF ks[i] (tmb_fine (ha.mem _ hkm)) _ hkc _) ?_
    · rfl
    · simp -implicitDefEqProofs only [go_sem, Nat.reduceEqDiff, Nat.reduceAdd, Nat.reduceLeDiff, ↓reduceIte, reduceCtorEq, Int.reduceBEq, Int.reduceBNe, Int.reduceLT, Int.reduceLE, Int.reduceGT, Int.reduceGE, Int.reduceNeg, Int.reduceAdd, Int.reduceSub, Nat.reduceMul, Nat.reduceLT, Int.reduceToNat]
    rintro y H3 ⟨rfl, hHH⟩
    have hHH := hHH.symm
    subst hHH
    by_cases hc : checkF canF ks[i] = 0
    · rw [if_pos hc] at hr
      have hcb : (checkF canF ks[i] == 0) = true := by rw [hc]; rfl
      simp -implicitDefEqProofs only [go_sem, Nat.reduceEqDiff, Nat.reduceAdd, Nat.reduceLeDiff, ↓reduceIte, reduceCtorEq, Int.reduceBEq, Int.reduceBNe, Int.reduceLT, Int.reduceLE, Int.reduceGT, Int.reduceGE, Int.reduceNeg, Int.reduceAdd, Int.reduceSub, Nat.reduceMul, Nat.reduceLT, Int.reduceToNat, t6, t7, t8, hcb, w3]
      exact ⟨by simp, (hE.new _).set hE.1 _, hr⟩
    · rw [if_neg hc] at hr
      simp -implicitDefEqProofs only [go_sem, Nat.reduceEqDiff, Nat.reduceAdd, Nat.reduceLeDiff, ↓reduceIte, reduceCtorEq, Int.reduceBEq, Int.reduceBNe, Int.reduceLT, Int.reduceLE, Int.reduceGT, Int.reduceGE, Int.reduceNeg, Int.reduceAdd, Int.reduceSub, Nat.reduceMul, Nat.reduceLT, Int.reduceToNat, t6, t7, t8, bne' hc]
      exact ⟨by rw [hr], (hE.new _).set hE.1 _⟩
  · rintro ⟨tm, H2⟩ ⟨t6, t7, t8, hE, hr⟩
    simp only at t6 t7 t8 hE
    rw [List.drop_length, askF] at hr
    simp -implicitDefEqProofs only [go_sem, Nat.reduceEqDiff, Nat.reduceAdd, Nat.reduceLeDiff, ↓reduceIte, reduceCtorEq, Int.reduceBEq, Int.reduceBNe, Int.reduceLT, Int.reduceLE, Int.reduceGT, Int.reduceGE, Int.reduceNeg, Int.reduceAdd, Int.reduceSub, Nat.reduceMul, Nat.reduceLT, Int.reduceToNat, t6, t7, t8, Int.lt_irrefl]
    exact ⟨by rw [hr], hE⟩

/-- A row of truths. -/
def HidR (hs : List Bool) (x : AV) : Prop := (hs.length = 0 ∧ x = nils) ∨ ∃ lo ex cs, x = .ro hs.length lo ex cs ∧ hs.length ≤ lo ∧ cs.take hs.length = hs.map abl
def hidF (hs : List Bool) (i : Nat) : Bool := hs[i]?.getD false
theorem HidR.alen {hs : List Bool} {x : AV} (h : HidR hs x) (G : AHeap) : alen G .slice x = some hs.length := by
  rcases h with ⟨h0, rfl⟩ | ⟨lo, ex, cs, rfl, _⟩
  · rw [h0]; rfl
  · rfl

set_option maxRecDepth 100000 in
theorem hidden1_ok (hs : List Bool) (x : AV) (h : HidR hs x) (i : Nat) (hi : i ≤ 4611686018427387904) (b : Nat) (H : AHeap) (hb : H.get b = some (.cells [x])) :
    SCall Try.prog 137 [aint i, .ptr b 0] H fun y H' => y = abl (hidF hs i) ∧ H' = H := by
  have hone : x.one = true := by
    rcases h with ⟨_, rfl⟩ | ⟨lo, ex, cs, rfl, _⟩ <;> rfl
  have hcells : x.acells = [x] := by
    rcases h with ⟨_, rfl⟩ | ⟨lo, ex, cs, rfl, _⟩ <;> rfl
  refine SCall.intro mixed cf137 ?_
  by_cases hlt : (i : Int) < (hs.length : Int)
  · rcases h with ⟨h0, _⟩ | ⟨lo, ex, cs, rfl, hlo, hcs⟩
    · omega
    have hix : aix 1 (i : Int) (.ro hs.length lo ex cs) = some (.rop cs i) := by
      simp only [aix]
      rw [if_pos (by omega)]
      simp
    have hil : i < hs.length := by omega
    have hg : (cs.drop i).take 1 = [abl hs[i]] := by
      have h1 : cs[i]? = some (abl hs[i]) := by
        have h2 : (cs.take hs.length)[i]? = some (abl hs[i]) := by rw [hcs]; simp [hil]
        rw [List.getElem?_take, if_pos hil] at h2
        exact h2
      have hlt2 := (List.getElem?_eq_some_iff.1 h1).1
      rw [List.drop_eq_getElem_cons hlt2, List.take_succ_cons, List.take_zero, (List.getElem?_eq_some_iff.1 h1).2]
    have hle : i + 1 ≤ cs.length := by
      have := congrArg List.length hcs
      simp at this
      omega
    have hF : hidF hs i = hs[i] := by unfold hidF; rw [List.getElem?_eq_getElem hil]; rfl
    rw [hF]
    simp -implicitDefEqProofs only [c137, go_sem, Nat.reduceEqDiff, Nat.reduceAdd, Nat.reduceLeDiff, ↓reduceIte, reduceCtorEq, Int.reduceBEq, Int.reduceBNe, Int.reduceLT, Int.reduceLE, Int.reduceGT, Int.reduceGE, Int.reduceNeg, Int.reduceAdd, Int.reduceSub, Nat.reduceMul, Nat.reduceLT, Int.reduceToNat, hb, hlt, hix, hg, hle]
  · have hal := h.alen
    have hF : hidF hs i = false := by unfold hidF; rw [List.getElem?_eq_none (by omega)]; rfl
    rw [hF]
    simp -implicitDefEqProofs only [c137, go_sem, Nat.reduceEqDiff, Nat.reduceAdd, Nat.reduceLeDiff, ↓reduceIte, reduceCtorEq, Int.reduceBEq, Int.reduceBNe, Int.reduceLT, Int.reduceLE, Int.reduceGT, Int.reduceGE, Int.reduceNeg, Int.reduceAdd, Int.reduceSub, Nat.reduceMul, Nat.reduceLT, Int.reduceToNat, hb, hone, hcells, hal, hlt]
end Go.Proofs.Ytooaiddfokbffaa.E

/- Rows of one's own turned round: slices.Reverse. Conditions: none. -/
set_option linter.unusedVariables false
set_option linter.unusedSimpArgs false
namespace Go.Proofs.Ytooaiddfokbffaa.E
open Go Go.Proofs
attribute [local go_sem] s_seq s_ops s_draw s_block s_skip s_ret s_exit i_nil i_cons i_run i_runG s_condQ c_true c_false aop ev_t ev_c updO_at updO_no upd_at t_normal t_ret t_exit b_normal b_ret b_exit a_some ac_v ac_agg ac_ptr ac_slc ac_ro ac_rop ac_fn new_next set_next argTm_zero argTm_succ argTm_nil ab_bool ab_uv beq_self_eq_true Option.some_beq_some Bool.not_not beq_iff_eq decide_true decide_false Bool.not_true Bool.not_false afld aload astore apack alen_str alen_ro alen_slc alen_nil new_get set_get ite_true ite_false Option.map_some Option.bind_some ibin isShift Nat.add_zero Nat.zero_add List.length_cons List.length_nil List.drop_zero List.drop_succ_cons List.take_succ_cons List.take_zero if_true if_false setL List.set_cons_zero List.set_cons_succ List.all_cons List.all_nil one_int one_bool one_str one_nil one_ptr one_slc one_ro one_rop one_fn Bool.and_self Bool.and_true true_and and_true and_self Bool.false_eq_true post_ret post_normal resAll resOne packR Option.some.injEq exists_eq_left' List.map_cons List.map_nil List.nil_append List.append_nil List.cons_append d_nil d_cons k_nil k_cons g_op g_same g_new avBlock forall_eq' List.getElem?_cons_succ List.getElem?_cons_zero List.getElem?_nil okind gOk bne false_imp_iff forall_const imp_self implies_true true_imp_iff i_callG

/-- Rows in pieces of one length. -/
def Parts (es : Nat) : List (List AV) → List AV → Prop
  | [], l => l = []
  | p :: r, l => ∃ l', l = p ++ l' ∧ p.length = es ∧ Parts es r l'
theorem Parts.len {es : Nat} : ∀ {ps : List (List AV)} {l : List AV}, Parts es ps l → l.length = ps.length * es
  | [], l, h => by simp only [Parts] at h; subst h; simp
  | p :: r, l, h => by
    simp only [Parts] at h
    obtain ⟨l', rfl, h1, h2⟩ := h
    have := h2.len
    rw [List.length_append, h1, this, List.length_cons, Nat.add_mul]; omega
theorem Parts.flat {es : Nat} : ∀ {ps : List (List AV)} {l : List AV}, Parts es ps l ↔ l = ps.flatten ∧ ∀ p ∈ ps, p.length = es
  | [], l => by simp [Parts]
  | p :: r, l => by
    simp only [Parts, List.flatten_cons, List.mem_cons, forall_eq_or_imp]
    constructor
    · rintro ⟨l', rfl, h1, h2⟩
      obtain ⟨h3, h4⟩ := Parts.flat.1 h2
      exact ⟨by rw [h3], h1, h4⟩
    · rintro ⟨rfl, h1, h2⟩
      exact ⟨_, rfl, h1, Parts.flat.2 ⟨rfl, h2⟩⟩
theorem Parts.at {es : Nat} {ps : List (List AV)} {l : List AV} (h : Parts es ps l) {i : Nat} (hi : i < ps.length) : (l.drop (i * es)).take es = ps[i] ∧ i * es + es ≤ l.length := by
  induction ps generalizing l i with
  | nil => cases hi
  | cons p r ih =>
    have hl := h.len
    simp only [Parts] at h
    obtain ⟨l', rfl, h1, h2⟩ := h
    cases i with
    | zero =>
      rw [Nat.zero_mul, List.drop_zero, List.take_append_of_le_length (by omega), List.take_of_length_le (by omega)]
      exact ⟨rfl, by rw [List.length_append]; omega⟩
    | succ i =>
      obtain ⟨q1, q2⟩ := ih h2 (by simpa using hi)
      have he : (i + 1) * es = p.length + i * es := by rw [Nat.add_mul, h1]; omega
      rw [he, ← List.drop_drop, List.drop_left]
      exact ⟨q1, by rw [List.length_append]; omega⟩
theorem Parts.set {es : Nat} {ps : List (List AV)} {l : List AV} (h : Parts es ps l) {i : Nat} (hi : i < ps.length) {c : List AV} (hc : c.length = es) : Parts es (ps.set i c) (setL l (i * es) c) := by
  induction ps generalizing l i with
  | nil => cases hi
  | cons p r ih =>
    have hlen := (h.at hi).2
    simp only [Parts] at h
    obtain ⟨l', rfl, h1, h2⟩ := h
    rw [setL_eq _ _ _ (by rw [hc]; exact hlen), hc]
    cases i with
    | zero =>
      rw [Nat.zero_mul, List.take_zero, List.nil_append, Nat.zero_add, List.drop_append_of_le_length (by omega), List.drop_of_length_le (by omega), List.nil_append, List.set_cons_zero]
      exact ⟨l', rfl, hc, h2⟩
    | succ i =>
      have hi' : i < r.length := by simpa using hi
      have he : (i + 1) * es = p.length + i * es := by rw [Nat.add_mul, h1]; omega
      have hlen' : i * es + c.length ≤ l'.length := by rw [List.length_append, he] at hlen; omega
      have := ih h2 hi'
      rw [setL_eq _ _ _ hlen', hc] at this
      rw [List.set_cons_succ]
      refine ⟨_, ?_, h1, this⟩
      rw [he, List.take_append, List.take_of_length_le (by omega), Nat.add_sub_cancel_left, Nat.add_assoc, ← List.drop_drop, List.drop_left]
      simp

/-- Turned round from both ends, i pieces far. -/
def Half {α : Type} (ps q : List α) (i : Nat) : Prop := q.length = ps.length ∧ ∀ j, j < ps.length → q[j]? = if j < i ∨ ps.length - i ≤ j then ps[ps.length - 1 - j]? else ps[j]?
theorem Half.zero {α : Type} (ps : List α) : Half ps ps 0 := ⟨rfl, fun j hj => by rw [if_neg (by omega)]⟩
theorem Half.step {α : Type} {ps q : List α} {i : Nat} (h : Half ps q i) (hi : 2 * i + 1 < ps.length) {x y : α} (hx : q[i]? = some x) (hy : q[ps.length - 1 - i]? = some y) : Half ps ((q.set i y).set (ps.length - 1 - i) x) (i + 1) := by
  obtain ⟨h1, h2⟩ := h
  refine ⟨by simp [h1], fun j hj => ?_⟩
  have e1 := h2 i (by omega)
  have e2 := h2 (ps.length - 1 - i) (by omega)
  rw [if_neg (by omega)] at e1 e2
  rw [hx] at e1
  rw [hy] at e2
  by_cases hj1 : j = ps.length - 1 - i
  · subst hj1
    rw [List.getElem?_set_self (by simp [h1]; omega), if_pos (by omega), show ps.length - 1 - (ps.length - 1 - i) = i by omega]
    exact e1
  · rw [List.getElem?_set_ne (fun h => hj1 h.symm)]
    by_cases hj2 : j = i
    · subst hj2
      rw [List.getElem?_set_self (by omega), if_pos (by omega)]
      exact e2
    · rw [List.getElem?_set_ne (fun h => hj2 h.symm), h2 j hj]
      by_cases hc : j < i ∨ ps.length - i ≤ j
      · rw [if_pos hc, if_pos (by omega)]
      · rw [if_neg hc, if_neg (by omega)]
theorem Half.done {α : Type} {ps q : List α} {i : Nat} (h : Half ps q i) (hi : i = ps.length / 2) : q = ps.reverse := by
  obtain ⟨h1, h2⟩ := h
  refine List.ext_getElem? fun j => ?_
  by_cases hj : j < ps.length
  · rw [h2 j hj, List.getElem?_reverse hj]
    split
    · rfl
    · have : ps.length - 1 - j = j := by omega
      rw [this]
  · rw [List.getElem?_eq_none (by omega), List.getElem?_eq_none (by simp; omega)]

set_option maxRecDepth 100000 in
theorem reverse_ok (ps : List (List AV)) (hone : ∀ p ∈ ps, p.all AV.one = true) (hn : ps.length ≤ 1000000) (b : Nat) (ex : Bool) (l : List AV) (hP : Parts 6 ps l) (H : AHeap) (hb : H.get b = some (.cells l)) :
    SCall Try.prog 133 [.slc b 0 6 ps.length ps.length ex] H fun x H' => ∃ l', Parts 6 ps.reverse l' ∧ H' = H.set b (.cells l') := by
  refine SCall.intro mixed cf133 ?_
  have wl : IntKind.i64.wrap ((ps.length : Int) - 1) = (ps.length : Int) - 1 := i64_ok _ (by omega)
  simp -implicitDefEqProofs only [c133, go_sem, Nat.reduceEqDiff, Nat.reduceAdd, Nat.reduceLeDiff, ↓reduceIte, reduceCtorEq, Int.reduceBEq, Int.reduceBNe, Int.reduceLT, Int.reduceLE, Int.reduceGT, Int.reduceGE, Int.reduceNeg, Int.reduceAdd, Int.reduceSub, Nat.reduceMul, Nat.reduceLT, Int.reduceToNat, wl]
  refine swp_range (ps.length / 2) (fun i st => st.tm 0 = .slc b 0 6 ps.length ps.length ex ∧ st.tm 2 = aint i ∧ st.tm 3 = aint ((ps.length : Int) - 1 - i) ∧ ∃ q l', Half ps q i ∧ Parts 6 q l' ∧ (∀ p ∈ q, p.all AV.one = true) ∧ st.heap = H.set b (.cells l')) ?_ ?_ ?_
  · refine ⟨rfl, rfl, ?_, ps, l, .zero ps, hP, hone, (AHeap.set_self hb).symm⟩
    show aint ((ps.length : Int) - 1) = aint ((ps.length : Int) - 1 - ((0 : Nat) : Int))
    simp
  · rintro i ⟨tm, H2⟩ hi ⟨t0, t2, t3, q, l', hH, hQ, hq1, hh⟩
    simp only at t0 t2 t3 hh
    subst hh
    have hi2 : 2 * i + 1 < ps.length := by omega
    have hql := hH.1
    have hj : ps.length - 1 - i < q.length := by omega
    have hi3 : i < q.length := by omega
    have hcast : ((ps.length - 1 - i : Nat) : Int) = (ps.length : Int) - 1 - i := by omega
    have hlt : (i : Int) < (ps.length : Int) - 1 - i := by omega
    obtain ⟨a1, a2⟩ := hQ.at hi3
    obtain ⟨c1, c2⟩ := hQ.at hj
    have hxi : q[i]? = some q[i] := List.getElem?_eq_getElem hi3
    have hxj : q[ps.length - 1 - i]? = some q[ps.length - 1 - i] := List.getElem?_eq_getElem hj
    have ho1 := hq1 _ (List.getElem_mem hi3)
    have ho2 := hq1 _ (List.getElem_mem hj)
    have hf := (Parts.flat.1 hQ).2
    have hl1 := hf _ (List.getElem_mem hi3)
    have hl2 := hf _ (List.getElem_mem hj)
    have hs1 := hQ.set hi3 hl2
    have hs2 := hs1.set (i := ps.length - 1 - i) (by simp; omega) hl1
    have hst := hH.step hi2 hxi hxj
    generalize q[i] = p1 at *
    generalize q[ps.length - 1 - i] = p2 at *
    have hix : aix 6 (i : Int) (.slc b 0 6 ps.length ps.length ex) = some (.ptr b (i * 6)) := by
      simp only [aix]
      rw [if_pos (by omega)]
      simp
    have hjx : aix 6 ((ps.length : Int) - 1 - i) (.slc b 0 6 ps.length ps.length ex) = some (.ptr b ((ps.length - 1 - i) * 6)) := by
      rw [← hcast]
      simp only [aix]
      rw [if_pos (by omega)]
      simp
    have w1 : IntKind.i64.wrap ((i : Int) + 1) = (i : Int) + 1 := i64_ok _ (by omega)
    have w2 : IntKind.i64.wrap ((ps.length : Int) - 1 - i - 1) = (ps.length : Int) - 1 - i - 1 := i64_ok _ (by omega)
    have hlen1 : (ps.length - 1 - i) * 6 + 6 ≤ (setL l' (i * 6) p2).length := by rw [setL_length]; exact c2
    simp -implicitDefEqProofs only [go_sem, Nat.reduceEqDiff, Nat.reduceAdd, Nat.reduceLeDiff, ↓reduceIte, reduceCtorEq, Int.reduceBEq, Int.reduceBNe, Int.reduceLT, Int.reduceLE, Int.reduceGT, Int.reduceGE, Int.reduceNeg, Int.reduceAdd, Int.reduceSub, Nat.reduceMul, Nat.reduceLT, Int.reduceToNat, t0, t2, t3, hlt, hix, hjx, a1, a2, c1, c2, ho1, ho2, hl1, hl2, hlen1, w1, w2]
    have hss : ∀ (H : AHeap) (o o' : AObj), (H.set b o).set b o' = H.set b o' := fun H o o' => by
      cases H
      simp only [AHeap.set, AHeap.mk.injEq, and_true]
      funext x
      by_cases hx : x = b
      · simp [hx]
      · simp [hx]
    refine ⟨by simp, by rw [show (ps.length : Int) - 1 - i - 1 = (ps.length : Int) - 1 - ((i + 1 : Nat) : Int) by omega], _, _, hst, hs2, fun p hp => ?_, by rw [hss, hss]⟩
    rcases List.mem_or_eq_of_mem_set hp with hp | rfl
    · rcases List.mem_or_eq_of_mem_set hp with hp | rfl
      · exact hq1 p hp
      · exact ho2
    · exact ho1
  · rintro ⟨tm, H2⟩ ⟨t0, t2, t3, q, l', hH, hQ, hq1, hh⟩
    simp only at t0 t2 t3 hh
    subst hh
    have hlt : ¬ (((ps.length / 2 : Nat)) : Int) < (ps.length : Int) - 1 - ((ps.length / 2 : Nat) : Int) := by omega
    simp -implicitDefEqProofs only [go_sem, Nat.reduceEqDiff, Nat.reduceAdd, Nat.reduceLeDiff, ↓reduceIte, reduceCtorEq, Int.reduceBEq, Int.reduceBNe, Int.reduceLT, Int.reduceLE, Int.reduceGT, Int.reduceGE, Int.reduceNeg, Int.reduceAdd, Int.reduceSub, Nat.reduceMul, Nat.reduceLT, Int.reduceToNat, t0, t2, t3, hlt]
    exact ⟨l', by rw [← hH.done rfl]; exact hQ, rfl⟩
set_option maxRecDepth 100000 in
theorem reverse1_ok (ps : List (List AV)) (hone : ∀ p ∈ ps, ∃ v : Bool, p = [abl v]) (hn : ps.length ≤ 1000000) (b : Nat) (ex : Bool) (l : List AV) (hP : Parts 1 ps l) (H : AHeap) (hb : H.get b = some (.cells l)) :
    SCall Try.prog 134 [.slc b 0 1 ps.length ps.length ex] H fun x H' => ∃ l', Parts 1 ps.reverse l' ∧ H' = H.set b (.cells l') := by
  refine SCall.intro mixed cf134 ?_
  have wl : IntKind.i64.wrap ((ps.length : Int) - 1) = (ps.length : Int) - 1 := i64_ok _ (by omega)
  simp -implicitDefEqProofs only [c134, go_sem, Nat.reduceEqDiff, Nat.reduceAdd, Nat.reduceLeDiff, ↓reduceIte, reduceCtorEq, Int.reduceBEq, Int.reduceBNe, Int.reduceLT, Int.reduceLE, Int.reduceGT, Int.reduceGE, Int.reduceNeg, Int.reduceAdd, Int.reduceSub, Nat.reduceMul, Nat.reduceLT, Int.reduceToNat, wl]
  refine swp_range (ps.length / 2) (fun i st => st.tm 0 = .slc b 0 1 ps.length ps.length ex ∧ st.tm 2 = aint i ∧ st.tm 3 = aint ((ps.length : Int) - 1 - i) ∧ ∃ q l', Half ps q i ∧ Parts 1 q l' ∧ (∀ p ∈ q, ∃ v : Bool, p = [abl v]) ∧ st.heap = H.set b (.cells l')) ?_ ?_ ?_
  · refine ⟨rfl, rfl, ?_, ps, l, .zero ps, hP, hone, (AHeap.set_self hb).symm⟩
    show aint ((ps.length : Int) - 1) = aint ((ps.length : Int) - 1 - ((0 : Nat) : Int))
    simp
  · rintro i ⟨tm, H2⟩ hi ⟨t0, t2, t3, q, l', hH, hQ, hq1, hh⟩
    simp only at t0 t2 t3 hh
    subst hh
    have hi2 : 2 * i + 1 < ps.length := by omega
    have hql := hH.1
    have hj : ps.length - 1 - i < q.length := by omega
    have hi3 : i < q.length := by omega
    have hcast : ((ps.length - 1 - i : Nat) : Int) = (ps.length : Int) - 1 - i := by omega
    have hlt : (i : Int) < (ps.length : Int) - 1 - i := by omega
    obtain ⟨a1, a2⟩ := hQ.at hi3
    obtain ⟨c1, c2⟩ := hQ.at hj
    have hxi : q[i]? = some q[i] := List.getElem?_eq_getElem hi3
    have hxj : q[ps.length - 1 - i]? = some q[ps.length - 1 - i] := List.getElem?_eq_getElem hj
    have ho1 := hq1 _ (List.getElem_mem hi3)
    have ho2 := hq1 _ (List.getElem_mem hj)
    have hf := (Parts.flat.1 hQ).2
    have hl1 := hf _ (List.getElem_mem hi3)
    have hl2 := hf _ (List.getElem_mem hj)
    have hs1 := hQ.set hi3 hl2
    have hs2 := hs1.set (i := ps.length - 1 - i) (by simp; omega) hl1
    have hst := hH.step hi2 hxi hxj
    generalize q[i] = p1 at *
    generalize q[ps.length - 1 - i] = p2 at *
    obtain ⟨v1, rfl⟩ := ho1
    obtain ⟨v2, rfl⟩ := ho2
    have hix : aix 1 (i : Int) (.slc b 0 1 ps.length ps.length ex) = some (.ptr b (i * 1)) := by
      simp only [aix]
      rw [if_pos (by omega)]
      simp
    have hjx : aix 1 ((ps.length : Int) - 1 - i) (.slc b 0 1 ps.length ps.length ex) = some (.ptr b ((ps.length - 1 - i) * 1)) := by
      rw [← hcast]
      simp only [aix]
      rw [if_pos (by omega)]
      simp
    have w1 : IntKind.i64.wrap ((i : Int) + 1) = (i : Int) + 1 := i64_ok _ (by omega)
    have w2 : IntKind.i64.wrap ((ps.length : Int) - 1 - i - 1) = (ps.length : Int) - 1 - i - 1 := i64_ok _ (by omega)
    have hlen1 : (ps.length - 1 - i) * 1 + 1 ≤ (l'.set (i * 1) (abl v2)).length := by rw [List.length_set]; exact c2
    simp -implicitDefEqProofs only [go_sem, Nat.reduceEqDiff, Nat.reduceAdd, Nat.reduceLeDiff, ↓reduceIte, reduceCtorEq, Int.reduceBEq, Int.reduceBNe, Int.reduceLT, Int.reduceLE, Int.reduceGT, Int.reduceGE, Int.reduceNeg, Int.reduceAdd, Int.reduceSub, Nat.reduceMul, Nat.reduceLT, Int.reduceToNat, t0, t2, t3, hlt, hix, hjx, a1, a2, c1, c2, hlen1, w1, w2]
    have hss : ∀ (H : AHeap) (o o' : AObj), (H.set b o).set b o' = H.set b o' := fun H o o' => by
      cases H
      simp only [AHeap.set, AHeap.mk.injEq, and_true]
      funext x
      by_cases hx : x = b
      · simp [hx]
      · simp [hx]
    refine ⟨by simp, by rw [show (ps.length : Int) - 1 - i - 1 = (ps.length : Int) - 1 - ((i + 1 : Nat) : Int) by omega], _, _, hst, hs2, fun p hp => ?_, by rw [hss, hss]; rfl⟩
    rcases List.mem_or_eq_of_mem_set hp with hp | rfl
    · rcases List.mem_or_eq_of_mem_set hp with hp | rfl
      · exact hq1 p hp
      · exact ⟨v2, rfl⟩
    · exact ⟨v1, rfl⟩
  · rintro ⟨tm, H2⟩ ⟨t0, t2, t3, q, l', hH, hQ, hq1, hh⟩
    simp only at t0 t2 t3 hh
    subst hh
    have hlt : ¬ (((ps.length / 2 : Nat)) : Int) < (ps.length : Int) - 1 - ((ps.length / 2 : Nat) : Int) := by omega
    simp -implicitDefEqProofs only [go_sem, Nat.reduceEqDiff, Nat.reduceAdd, Nat.reduceLeDiff, ↓reduceIte, reduceCtorEq, Int.reduceBEq, Int.reduceBNe, Int.reduceLT, Int.reduceLE, Int.reduceGT, Int.reduceGE, Int.reduceNeg, Int.reduceAdd, Int.reduceSub, Nat.reduceMul, Nat.reduceLT, Int.reduceToNat, t0, t2, t3, hlt]
    exact ⟨l', by rw [← hH.done rfl]; exact hQ, rfl⟩
end Go.Proofs.Ytooaiddfokbffaa.E

/- raw.Spine, as the code does it. Conditions: none. -/
set_option linter.unusedVariables false
set_option linter.unusedSimpArgs false
namespace Go.Proofs.Ytooaiddfokbffaa.E
open Go Go.Proofs
attribute [local go_sem] s_seq s_ops s_draw s_block s_skip s_ret s_exit i_nil i_cons i_run i_runG s_condQ c_true c_false aop ev_t ev_c updO_at updO_no upd_at t_normal t_ret t_exit b_normal b_ret b_exit a_some ac_v ac_agg ac_ptr ac_slc ac_ro ac_rop ac_fn new_next set_next argTm_zero argTm_succ argTm_nil ab_bool ab_uv beq_self_eq_true Option.some_beq_some Bool.not_not beq_iff_eq decide_true decide_false Bool.not_true Bool.not_false afld aload astore apack alen_str alen_ro alen_slc alen_nil new_get set_get ite_true ite_false Option.map_some Option.bind_some ibin isShift Nat.add_zero Nat.zero_add List.length_cons List.length_nil List.drop_zero List.drop_succ_cons List.take_succ_cons List.take_zero if_true if_false setL List.set_cons_zero List.set_cons_succ List.all_cons List.all_nil one_int one_bool one_str one_nil one_ptr one_slc one_ro one_rop one_fn Bool.and_self Bool.and_true true_and and_true and_self Bool.false_eq_true post_ret post_normal resAll resOne packR Option.some.injEq exists_eq_left' List.map_cons List.map_nil List.nil_append List.append_nil List.cons_append d_nil d_cons k_nil k_cons g_op g_same g_new avBlock forall_eq' List.getElem?_cons_succ List.getElem?_cons_zero List.getElem?_nil okind gOk bne false_imp_iff forall_const imp_self implies_true true_imp_iff i_callG

mutual
/-- The arguments of a row of applications. -/
def spT : Tm → List (Tm × Bool)
  | .mk f n h s lv ks => if f = 5 then spK h ks else []
def spK (h : Bool) : List Tm → List (Tm × Bool)
  | [] => []
  | k :: r => spT k ++ (match r with | [] => [] | a :: _ => [(a, h)])
end
mutual
/-- Its head. -/
def hdT : Tm → Tm
  | .mk f n h s lv ks => if f = 5 then hdK (.mk f n h s lv ks) ks else .mk f n h s lv ks
def hdK (t : Tm) : List Tm → Tm
  | [] => t
  | k :: _ => hdT k
end
/-- An application has two parts. -/
def Ap (t : Tm) : Prop := t.form = 5 → t.kids.length = 2
theorem form_ap (r : Lv → Bool) : ∀ t, allF (formF r) t = true → Tm.All Ap t := by
  refine Tm.rule fun f n hd s lv ks ih h => ?_
  simp only [allF, Bool.and_eq_true] at h
  obtain ⟨h1, h2⟩ := h
  simp only [Tm.All]
  refine ⟨fun hf => ?_, ?_⟩
  · have hk : kidsF f = (ks.length : Int) := by
      rcases Classical.em (kidsF f = (ks.length : Int)) with h' | h'
      · exact h'
      · unfold formF at h1
        rw [if_pos (by exact h')] at h1
        cases h1
    have hf : f = 5 := hf
    subst hf
    have : kidsF 5 = 2 := by decide
    show ks.length = 2
    omega
  · have key : ∀ ks', (∀ k ∈ ks', k ∈ ks) → allK (formF r) ks' = true → Tm.AllL Ap ks' := by
      intro ks'
      induction ks' with
      | nil => intro _ _; trivial
      | cons k q ih' =>
        intro hm h
        simp only [allK, Bool.and_eq_true] at h
        exact ⟨ih k (hm k (List.mem_cons_self ..)) h.1, ih' (fun k hk => hm k (List.mem_cons_of_mem _ hk)) h.2⟩
    exact key ks (fun _ h => h) h2

/-- Terms and their pieces of cells. -/
def PW (ks : List Tm) (ps : List (List AV)) : Prop := ks.length = ps.length ∧ ∀ (i : Nat) (k : Tm) (p : List AV), ks[i]? = some k → ps[i]? = some p → TmP k p
theorem ksX_iff : ∀ {ks : List Tm} {l : List AV}, KsX ks l ↔ ∃ ps, Parts 6 ps l ∧ PW ks ps
  | [], l => by
    constructor
    · intro h; simp only [KsX] at h; exact ⟨[], h, rfl, fun i k p h => by simp at h⟩
    · rintro ⟨ps, h1, h2, _⟩
      have : ps = [] := List.length_eq_zero_iff.1 h2.symm
      subst this
      exact h1
  | k :: r, l => by
    constructor
    · intro h
      simp only [KsX] at h
      obtain ⟨c, cs', rfl, h1, h2⟩ := h
      obtain ⟨ps, q1, q2, q3⟩ := ksX_iff.1 h2
      refine ⟨c :: ps, ⟨cs', rfl, h1.1.len, q1⟩, by simp [q2], fun i k' p hk hp => ?_⟩
      cases i with
      | zero => simp at hk hp; subst hk hp; exact h1
      | succ i => exact q3 i k' p (by simpa using hk) (by simpa using hp)
    · rintro ⟨ps, h1, h2, h3⟩
      cases ps with
      | nil => simp at h2
      | cons p ps =>
        simp only [Parts] at h1
        obtain ⟨l', rfl, q1, q2⟩ := h1
        exact ⟨p, l', rfl, h3 0 k p rfl rfl, ksX_iff.2 ⟨ps, q2, by simpa using h2, fun i k' p' hk hp => h3 (i + 1) k' p' (by simpa using hk) (by simpa using hp)⟩⟩
theorem PW.reverse {ks : List Tm} {ps : List (List AV)} (h : PW ks ps) : PW ks.reverse ps.reverse := by
  obtain ⟨h1, h2⟩ := h
  refine ⟨by simp [h1], fun i k p hk hp => ?_⟩
  have hi : i < ks.length := by have := (List.getElem?_eq_some_iff.1 hk).1; simpa using this
  rw [List.getElem?_reverse hi] at hk
  rw [List.getElem?_reverse (by omega)] at hp
  rw [h1] at hk
  exact h2 _ k p hk hp
theorem PW.one {ks : List Tm} {ps : List (List AV)} (h : PW ks ps) : ∀ p ∈ ps, p.all AV.one = true := by
  intro p hp
  obtain ⟨i, hi, he⟩ := List.getElem_of_mem hp
  have hk : i < ks.length := by rw [h.1]; exact hi
  obtain ⟨_, _, _, _, _, _, _, _, _, _, h8⟩ := (h.2 i _ p (List.getElem?_eq_getElem hk) (by rw [List.getElem?_eq_getElem hi, he])).six
  exact h8

theorem rev_out {ks : List Tm} {H : AHeap} {base : Nat} {l : List AV} {x : AV} (hO : OutS H base 6 ks.length l x) (hX : KsX ks l) (hn : ks.length ≤ 1000000) :
    SCall Try.prog 133 [x] H fun _ H' => ∃ l', OutS H' base 6 ks.length l' x ∧ KsX ks.reverse l' ∧ H'.next = H.next ∧ ∀ b, avBlock x ≠ some b → H'.get b = H.get b := by
  rcases hO with ⟨h0, rfl, rfl⟩ | ⟨b, h1, h2, rfl, h3, h4⟩
  · have hks : ks = [] := List.length_eq_zero_iff.1 h0
    subst hks
    refine SCall.intro mixed cf133 ?_
    simp -implicitDefEqProofs only [c133, go_sem, Nat.reduceEqDiff, Nat.reduceAdd, Nat.reduceLeDiff, ↓reduceIte, reduceCtorEq, Int.reduceBEq, Int.reduceBNe, Int.reduceLT, Int.reduceLE, Int.reduceGT, Int.reduceGE, Int.reduceNeg, Int.reduceAdd, Int.reduceSub, Nat.reduceMul, Nat.reduceLT, Int.reduceToNat]
    refine swp_range 0 (fun i st => st.tm 0 = nils ∧ st.tm 2 = aint 0 ∧ st.tm 3 = aint (-1) ∧ st.heap = H) ?_ ?_ ?_
    · exact ⟨rfl, rfl, rfl, rfl⟩
    · intro i st hi; omega
    · rintro ⟨tm, H2⟩ ⟨t0, t2, t3, hh⟩
      simp only at t0 t2 t3 hh
      subst hh
      simp -implicitDefEqProofs only [go_sem, Nat.reduceEqDiff, Nat.reduceAdd, Nat.reduceLeDiff, ↓reduceIte, reduceCtorEq, Int.reduceBEq, Int.reduceBNe, Int.reduceLT, Int.reduceLE, Int.reduceGT, Int.reduceGE, Int.reduceNeg, Int.reduceAdd, Int.reduceSub, Nat.reduceMul, Nat.reduceLT, Int.reduceToNat, t0, t2, t3]
      exact ⟨[], .nil, rfl⟩
  · obtain ⟨ps, q1, q2⟩ := ksX_iff.1 hX
    have h := reverse_ok ps q2.one (by rw [← q2.1]; exact hn) b false l q1 H h3
    rw [← q2.1] at h
    refine h.mono ?_
    rintro _ H' ⟨l', hl', rfl⟩
    refine ⟨l', .inr ⟨b, h1, h2, rfl, by rw [set_get, if_pos rfl], ?_⟩, ksX_iff.2 ⟨_, hl', q2.reverse⟩, rfl, fun b' hb' => ?_⟩
    · have := hl'.len; rw [List.length_reverse, ← q2.1] at this; exact this
    · rw [set_get, if_neg (fun hh => hb' (by rw [hh]; rfl))]

def hidC (hs : List Bool) : List AV := hs.map abl
theorem parts1 : ∀ (hs : List Bool), Parts 1 (hs.map fun b => [abl b]) (hidC hs)
  | [] => rfl
  | b :: r => ⟨hidC r, rfl, rfl, parts1 r⟩
theorem parts1_eq {hs : List Bool} {l : List AV} (h : Parts 1 (hs.map fun b => [abl b]) l) : l = hidC hs := by
  have h1 := (Parts.flat.1 h).1
  have h2 := (Parts.flat.1 (parts1 hs)).1
  rw [h1, ← h2]
theorem rev1_out {hs : List Bool} {H : AHeap} {base : Nat} {x : AV} (hO : OutS H base 1 hs.length (hidC hs) x) (hn : hs.length ≤ 1000000) :
    SCall Try.prog 134 [x] H fun _ H' => OutS H' base 1 hs.length (hidC hs.reverse) x ∧ H'.next = H.next ∧ ∀ b, avBlock x ≠ some b → H'.get b = H.get b := by
  rcases hO with ⟨h0, _, rfl⟩ | ⟨b, h1, h2, rfl, h3, h4⟩
  · have hks : hs = [] := List.length_eq_zero_iff.1 h0
    subst hks
    refine SCall.intro mixed cf134 ?_
    simp -implicitDefEqProofs only [c134, go_sem, Nat.reduceEqDiff, Nat.reduceAdd, Nat.reduceLeDiff, ↓reduceIte, reduceCtorEq, Int.reduceBEq, Int.reduceBNe, Int.reduceLT, Int.reduceLE, Int.reduceGT, Int.reduceGE, Int.reduceNeg, Int.reduceAdd, Int.reduceSub, Nat.reduceMul, Nat.reduceLT, Int.reduceToNat]
    refine swp_range 0 (fun i st => st.tm 0 = nils ∧ st.tm 2 = aint 0 ∧ st.tm 3 = aint (-1) ∧ st.heap = H) ?_ ?_ ?_
    · exact ⟨rfl, rfl, rfl, rfl⟩
    · intro i st hi; omega
    · rintro ⟨tm, H2⟩ ⟨t0, t2, t3, hh⟩
      simp only at t0 t2 t3 hh
      subst hh
      simp -implicitDefEqProofs only [go_sem, Nat.reduceEqDiff, Nat.reduceAdd, Nat.reduceLeDiff, ↓reduceIte, reduceCtorEq, Int.reduceBEq, Int.reduceBNe, Int.reduceLT, Int.reduceLE, Int.reduceGT, Int.reduceGE, Int.reduceNeg, Int.reduceAdd, Int.reduceSub, Nat.reduceMul, Nat.reduceLT, Int.reduceToNat, t0, t2, t3]
      exact .nil
  · have h := reverse1_ok (hs.map fun b => [abl b]) (fun p hp => by obtain ⟨v, _, rfl⟩ := List.mem_map.1 hp; exact ⟨v, rfl⟩) (by simpa using hn) b false _ (parts1 hs) H h3
    simp only [List.length_map] at h
    refine h.mono ?_
    rintro _ H' ⟨l', hl', rfl⟩
    rw [← List.map_reverse] at hl'
    have := parts1_eq hl'
    subst this
    refine ⟨.inr ⟨b, h1, h2, rfl, by rw [set_get, if_pos rfl], by simp [hidC]⟩, rfl, fun b' hb' => ?_⟩
    rw [set_get, if_neg (fun hh => hb' (by rw [hh]; rfl))]

/-- A row and another lie in two blocks. -/
def Two (x y : AV) : Prop := ∀ b, avBlock x = some b → avBlock y ≠ some b
theorem two_nil (y : AV) : Two nils y := fun b h => by cases h
theorem OutS.blk {H : AHeap} {base es n : Nat} {l : List AV} {x : AV} (h : OutS H base es n l x) {b : Nat} (hb : avBlock x = some b) : base ≤ b ∧ b < H.next := by
  rcases h with ⟨_, _, rfl⟩ | ⟨b0, g1, g2, rfl, _⟩
  · cases hb
  · cases hb; exact ⟨g1, g2⟩
theorem OutS.slcb {H : AHeap} {base es n : Nat} {l : List AV} {x : AV} (h : OutS H base es n l x) {b : Nat} (hb : avBlock x ≠ some b) : ∀ off es' n' lo ex, x ≠ .slc b off es' n' lo ex := by
  intro off es' n' lo ex hx
  subst hx
  exact hb rfl
theorem OutS.keepB {H H' : AHeap} {base es n : Nat} {l : List AV} {x : AV} (h : OutS H base es n l x) (hn : H.next ≤ H'.next) (hk : ∀ b, avBlock x = some b → H'.get b = H.get b) : OutS H' base es n l x :=
  h.keep hn fun b off es' n' lo ex hx => hk b (by rw [hx]; rfl)

set_option maxRecDepth 100000 in
theorem rawSpine_ok (t : Tm) (ha : Tm.All Ap t) (hz : szT t ≤ 20000) (cells : List AV) (hT : TmP t cells) (H : AHeap) :
    SCall Try.prog 88 [.agg cells] H fun r H' => ∃ c x y l, r = .tup [.agg c, x, y] ∧ TmP (hdT t) c ∧ OutS H' H.next 6 (spT t).length l x ∧ KsX ((spT t).map (·.1)) l ∧ OutS H' H.next 1 (spT t).length (hidC ((spT t).map (·.2))) y ∧ Two x y ∧ Ext H H' ∧ (spT t).length ≤ 20000 := by
  have hT' := hT
  obtain ⟨lx0, kx0, hc6, p1, p2, p3, p4, p5, p6, p7, p8⟩ := hT.six
  subst hc6
  have e1 : ¬ H.next = H.next + 1 := by omega
  have e2 : ¬ H.next + 1 = H.next := by omega
  refine SCall.intro mixed cf88 ?_
  simp -implicitDefEqProofs only [c88, go_sem, Nat.reduceEqDiff, Nat.reduceAdd, Nat.reduceLeDiff, ↓reduceIte, reduceCtorEq, Int.reduceBEq, Int.reduceBNe, Int.reduceLT, Int.reduceLE, Int.reduceGT, Int.reduceGE, Int.reduceNeg, Int.reduceAdd, Int.reduceSub, Nat.reduceMul, Nat.reduceLT, Int.reduceToNat, p1, p2, p3, p4, e1, e2]
  refine swp_loop (fun k st => ∃ (u : Tm) (c : List AV) (d : List (Tm × Bool)) (x y : AV) (l : List AV), k = szT u ∧ st.tm 1 = .ptr H.next 0 ∧ st.tm 2 = .ptr (H.next + 1) 0 ∧ st.tm 5 = x ∧ st.tm 6 = y ∧ H.next + 2 ≤ st.heap.next ∧ Ext H st.heap ∧ st.heap.get H.next = some (.cells c) ∧ st.heap.get (H.next + 1) = some (.cells z6) ∧
    Tm.All Ap u ∧ TmP u c ∧ hdT t = hdT u ∧ spT t = spT u ++ d.reverse ∧ d.length + szT u ≤ 20000 ∧ OutS st.heap (H.next + 2) 6 d.length l x ∧ KsX (d.map (·.1)) l ∧ OutS st.heap (H.next + 2) 1 d.length (hidC (d.map (·.2))) y ∧ Two x y) (k := szT t) ?_ ?_
  · refine ⟨t, _, [], nils, nils, [], rfl, rfl, rfl, rfl, rfl, Nat.le_refl _, ((Ext.refl H).new _).new _, ?_, ?_, ha, hT', rfl, by simp, by simpa using hz, .nil, rfl, .nil, two_nil _⟩
    all_goals simp -implicitDefEqProofs only [go_sem, Nat.reduceEqDiff, Nat.reduceAdd, Nat.reduceLeDiff, ↓reduceIte, reduceCtorEq, Int.reduceBEq, Int.reduceBNe, Int.reduceLT, Int.reduceLE, Int.reduceGT, Int.reduceGE, Int.reduceNeg, Int.reduceAdd, Int.reduceSub, Nat.reduceMul, Nat.reduceLT, Int.reduceToNat, e1, e2]
  · rintro k ⟨tm, H2⟩ ⟨u, c, d, x, y, l, rfl, t1, t2, t5, t6, hnx, hE, g0, g1, hap, hu, hhd, hsp, hdl, hO, hX, hO2, hTw⟩
    simp only at t1 t2 t5 t6 hnx hE g0 g1 hO hO2
    obtain ⟨f, n, hid, s, lv, ks⟩ := u
    have hu' := hu
    obtain ⟨lx, kx, ls, cs, rfl, hl1, hl2, hk1, hk2⟩ := hu.1.six
    simp only [Tm.form, Tm.n, Tm.hid, Tm.name, Tm.lv, Tm.kids] at *
    have q1 := hl1.one
    have q2 := hl1.cells
    have q3 := hk1.one
    have q4 := hk1.cells
    by_cases hf : f = 5
    case neg =>
      have hs0 : spT (.mk f n hid s lv ks) = [] := by rw [spT, if_neg hf]
      have hh0 : hdT (.mk f n hid s lv ks) = .mk f n hid s lv ks := by rw [hdT, if_neg hf]
      rw [hs0, List.nil_append] at hsp
      rw [hh0] at hhd
      have hlen : (spT t).length = d.length := by rw [hsp, List.length_reverse]
      have hdl' : d.length ≤ 20000 := by omega
      have hmf : (d.map (·.1)).length = d.length := by simp
      have hmg : (d.map (·.2)).length = d.length := by simp
      simp -implicitDefEqProofs only [go_sem, Nat.reduceEqDiff, Nat.reduceAdd, Nat.reduceLeDiff, ↓reduceIte, reduceCtorEq, Int.reduceBEq, Int.reduceBNe, Int.reduceLT, Int.reduceLE, Int.reduceGT, Int.reduceGE, Int.reduceNeg, Int.reduceAdd, Int.reduceSub, Nat.reduceMul, Nat.reduceLT, Int.reduceToNat, t1, t2, t5, t6, g0, g1, bne' hf]
      rw [← hmf] at hO
      refine i_callA (fs := []) (cs := []) (fid := 133) ?_ ?_ (rev_out hO hX (by rw [hmf]; omega)) ?_
      · rfl
      · simp -implicitDefEqProofs only [go_sem, Nat.reduceEqDiff, Nat.reduceAdd, Nat.reduceLeDiff, ↓reduceIte, reduceCtorEq, Int.reduceBEq, Int.reduceBNe, Int.reduceLT, Int.reduceLE, Int.reduceGT, Int.reduceGE, Int.reduceNeg, Int.reduceAdd, Int.reduceSub, Nat.reduceMul, Nat.reduceLT, Int.reduceToNat, t5]
      rintro z H3 ⟨l', hO', hX', hn3, hk3⟩
      have y0 : H3.get H.next = some (.cells [aint f, aint n, abl hid, .v (.string s), lx, kx]) := (hk3 _ (fun h => by have := (hO.blk h).1; omega)).trans g0
      have y1 : H3.get (H.next + 1) = some (.cells z6) := (hk3 _ (fun h => by have := (hO.blk h).1; omega)).trans g1
      have hO2' := hO2.keepB (H' := H3) (by omega) fun b hb => hk3 b fun h => hTw b h hb
      have hE3 : Ext H H3 := ⟨by have := hE.1; omega, fun b hb => (hk3 b (fun h => by have := (hO.blk h).1; omega)).trans (hE.2 b hb)⟩
      simp -implicitDefEqProofs only [go_sem, Nat.reduceEqDiff, Nat.reduceAdd, Nat.reduceLeDiff, ↓reduceIte, reduceCtorEq, Int.reduceBEq, Int.reduceBNe, Int.reduceLT, Int.reduceLE, Int.reduceGT, Int.reduceGE, Int.reduceNeg, Int.reduceAdd, Int.reduceSub, Nat.reduceMul, Nat.reduceLT, Int.reduceToNat, t1, t2, t5, t6]
      rw [← hmg] at hO2'
      refine i_callA (fs := []) (cs := []) (fid := 134) ?_ ?_ (rev1_out hO2' (by rw [hmg]; omega)) ?_
      · rfl
      · simp -implicitDefEqProofs only [go_sem, Nat.reduceEqDiff, Nat.reduceAdd, Nat.reduceLeDiff, ↓reduceIte, reduceCtorEq, Int.reduceBEq, Int.reduceBNe, Int.reduceLT, Int.reduceLE, Int.reduceGT, Int.reduceGE, Int.reduceNeg, Int.reduceAdd, Int.reduceSub, Nat.reduceMul, Nat.reduceLT, Int.reduceToNat, t6]
      rintro z H4 ⟨hO3, hn4, hk4⟩
      have z0 : H4.get H.next = some (.cells [aint f, aint n, abl hid, .v (.string s), lx, kx]) := (hk4 _ (fun h => by have := (hO2'.blk h).1; omega)).trans y0
      have z1 : H4.get (H.next + 1) = some (.cells z6) := (hk4 _ (fun h => by have := (hO2'.blk h).1; omega)).trans y1
      have hO4 := hO'.keepB (H' := H4) (by omega) fun b hb => hk4 b (hTw b hb)
      have hE4 : Ext H H4 := ⟨by have := hE3.1; omega, fun b hb => (hk4 b (fun h => by have := (hO2'.blk h).1; omega)).trans (hE3.2 b hb)⟩
      simp -implicitDefEqProofs only [go_sem, Nat.reduceEqDiff, Nat.reduceAdd, Nat.reduceLeDiff, ↓reduceIte, reduceCtorEq, Int.reduceBEq, Int.reduceBNe, Int.reduceLT, Int.reduceLE, Int.reduceGT, Int.reduceGE, Int.reduceNeg, Int.reduceAdd, Int.reduceSub, Nat.reduceMul, Nat.reduceLT, Int.reduceToNat, t1, t2, t5, t6, z0, z1, q1, q2, q3, q4, e1, e2]
      have r1 : (spT t).map (·.1) = (d.map (·.1)).reverse := by rw [hsp, List.map_reverse]
      have r2 : (spT t).map (·.2) = (d.map (·.2)).reverse := by rw [hsp, List.map_reverse]
      rw [r1, r2, hlen, hhd]
      rw [hmf] at hO4
      rw [hmg] at hO3
      exact ⟨_, x, y, l', rfl, hu', (hO4.set (hO4.notlow (by omega)) _).low (by omega), hX', (hO3.set (hO3.notlow (by omega)) _).low (by omega), hTw, hE4.set (by omega) _, hdl'⟩
    subst hf
    simp only [Tm.All, Ap, Tm.form, Tm.kids] at hap
    have hk2l : ks.length = 2 := hap.1 trivial
    obtain ⟨k0, k1, rfl⟩ : ∃ a b, ks = [a, b] := by
      match ks, hk2l with
      | [a, b], _ => exact ⟨a, b, rfl⟩
    simp only [Tm.AllL] at hap
    have hcso : ∀ y ∈ cs, Old 0 y := by
      rcases hk1 with ⟨h, _⟩ | ⟨lo, ex, rfl, _⟩
      · simp at h
      · have hko : Old 0 _ := hu'.2 _ (by simp : (AV.ro 2 lo ex cs) ∈ [aint 5, aint n, abl hid, .v (.string s), lx, AV.ro 2 lo ex cs])
        cases hko with | ro _ _ _ _ h => exact h
    have hix0 := hk1.aix 6 (i := 0) (by simp)
    have hix1 := hk1.aix 6 (i := 1) (by simp)
    obtain ⟨kc0, hkc0, hle0, hld0⟩ := hk2.load (i := 0) (k := k0) rfl
    obtain ⟨kc1, hkc1, hle1, hld1⟩ := hk2.load (i := 1) (k := k1) rfl
    have hP0 : TmP k0 kc0 := ⟨hkc0, fun y hy => hcso y (by rw [← hld0] at hy; exact List.mem_of_mem_drop (List.mem_of_mem_take hy))⟩
    have hP1 : TmP k1 kc1 := ⟨hkc1, fun y hy => hcso y (by rw [← hld1] at hy; exact List.mem_of_mem_drop (List.mem_of_mem_take hy))⟩
    have i0 : aix 6 (0 : Int) kx = some (.rop cs 0) := hix0
    have i1 : aix 6 (1 : Int) kx = some (.rop cs 6) := hix1
    have l0 : 0 + 6 ≤ cs.length := by omega
    have l0' : 6 ≤ cs.length := by omega
    have l1 : 6 + 6 ≤ cs.length := by omega
    have l1' : 12 ≤ cs.length := by omega
    have d0 : cs.take 6 = kc0 := by simpa using hld0
    have d1 : (cs.drop 6).take 6 = kc1 := by simpa using hld1
    obtain ⟨ux, vx, hk6, o1, o2, o3, o4, o5, o6, o7, o8⟩ := hP1.six
    obtain ⟨wx, zx, hk7, s1, s2, s3, s4, s5, s6, s7, s8⟩ := hP0.six
    have m0 : ¬ H.next = H2.next := by omega
    have m1 : ¬ H.next + 1 = H2.next := by omega
    have m2 : ¬ H.next = H2.next + 1 := by omega
    have m3 : ¬ H.next + 1 = H2.next + 1 := by omega
    have m4 : ¬ H2.next = H2.next + 1 := by omega
    have m5 : ¬ H2.next + 1 = H2.next := by omega
    have m6 : ¬ H.next + 1 = H.next := by omega
    have hsz : szT (.mk 5 n hid s lv [k0, k1]) = 1 + (szT k0 + szT k1) := by simp [szT, szK]
    subst hk6 hk7
    simp -implicitDefEqProofs only [go_sem, Nat.reduceEqDiff, Nat.reduceAdd, Nat.reduceLeDiff, ↓reduceIte, reduceCtorEq, Int.reduceBEq, Int.reduceBNe, Int.reduceLT, Int.reduceLE, Int.reduceGT, Int.reduceGE, Int.reduceNeg, Int.reduceAdd, Int.reduceSub, Nat.reduceMul, Nat.reduceLT, Int.reduceToNat, t1, t2, t5, t6, g0, g1, i0, i1, l0, l0', l1, l1', d0, d1, o1, o2, o3, o4, s1, s2, s3, s4, q1, q2, q3, q4, m0, m1, m2, m3, m4, m5, m6, afill, hO.one, hO.cells, hO2.one, hO2.cells]
    refine ((hO.new _).new _).stepN (m := 1) (new := [aint k1.form, aint k1.n, abl k1.hid, .v (.string k1.name), ux, vx]) (asrc_slc (c := [aint k1.form, aint k1.n, abl k1.hid, .v (.string k1.name), ux, vx]) (by rw [new_get, if_neg (by simp only [new_next]; omega), new_get]; exact if_pos rfl) (by simp)) o8 (by omega) (by omega) ⟨by omega, by omega⟩ rfl fun x' G' r6 r7 r8 => ?_
    simp only [new_next] at r6 r7
    have hGx : ∀ b, b < H2.next → avBlock x ≠ some b → G'.get b = H2.get b := fun b hb hx => by
      rw [r8 b (by simp only [new_next]; omega) (hO.slcb hx), new_get, if_neg (by simp only [new_next]; omega), new_get, if_neg (by omega)]
    have u0 := (hGx _ (by omega) (fun h => by have := (hO.blk h).1; omega)).trans g0
    have u1 := (hGx _ (by omega) (fun h => by have := (hO.blk h).1; omega)).trans g1
    have u2 : G'.get (H2.next + 1) = some (.cells [abl hid]) := by
      rw [r8 _ (by simp only [new_next]; omega) (hO.high (by omega)), new_get]; exact if_pos rfl
    have hO2' := hO2.keepB (H' := G') (by omega) fun b hb => hGx b (hO2.blk hb).2 fun h => hTw b h hb
    have hEG : Ext H G' := ⟨by have := hE.1; omega, fun b hb => (hGx b (by omega) (fun h => by have := (hO.blk h).1; omega)).trans (hE.2 b hb)⟩
    simp -implicitDefEqProofs only [go_sem, Nat.reduceEqDiff, Nat.reduceAdd, Nat.reduceLeDiff, ↓reduceIte, reduceCtorEq, Int.reduceBEq, Int.reduceBNe, Int.reduceLT, Int.reduceLE, Int.reduceGT, Int.reduceGE, Int.reduceNeg, Int.reduceAdd, Int.reduceSub, Nat.reduceMul, Nat.reduceLT, Int.reduceToNat, t1, t2, t5, t6, u0, u1, u2, hO2.one, hO2.cells, r6.one, r6.cells]
    refine hO2'.stepN (m := 1) (new := [abl hid]) (asrc_slc (c := [abl hid]) u2 (by simp)) rfl (by omega) (by omega) ⟨by omega, by omega⟩ rfl fun y' G2 v6 v7 v8 => ?_
    have hG2 : ∀ b, b < G'.next → avBlock y ≠ some b → G2.get b = G'.get b := fun b hb hy => v8 b hb (hO2'.slcb hy)
    have w0 := (hG2 _ (by omega) (fun h => by have := (hO2.blk h).1; omega)).trans u0
    have w1 := (hG2 _ (by omega) (fun h => by have := (hO2.blk h).1; omega)).trans u1
    have r6' := r6.keepB (H' := G2) v7 fun b hb => hG2 b (r6.blk hb).2 fun h => by have := (hO2.blk h).2; have := (r6.blk hb).1; omega
    have hEG2 : Ext H G2 := ⟨by have := hEG.1; omega, fun b hb => (hG2 b (by omega) (fun h => by have := (hO2.blk h).1; omega)).trans (hEG.2 b hb)⟩
    have hTw2 : Two x' y' := fun b h1 h2 => by have := (r6.blk h1).2; have := (v6.blk h2).1; omega
    simp -implicitDefEqProofs only [go_sem, Nat.reduceEqDiff, Nat.reduceAdd, Nat.reduceLeDiff, ↓reduceIte, reduceCtorEq, Int.reduceBEq, Int.reduceBNe, Int.reduceLT, Int.reduceLE, Int.reduceGT, Int.reduceGE, Int.reduceNeg, Int.reduceAdd, Int.reduceSub, Nat.reduceMul, Nat.reduceLT, Int.reduceToNat, t1, t2, w0, w1, i0, i1, l0, l0', l1, l1', d0, d1, s1, s2, s3, s4, q1, q2, q3, q4, m6]
    have hhd2 : hdT (.mk 5 n hid s lv [k0, k1]) = hdT k0 := by rw [hdT, if_pos rfl]; rfl
    have hsp2 : spT (.mk 5 n hid s lv [k0, k1]) = spT k0 ++ [(k1, hid)] := by rw [spT, if_pos rfl]; rfl
    refine ⟨szT k0, by omega, k0, _, d ++ [(k1, hid)], x', y', l ++ [aint k1.form, aint k1.n, abl k1.hid, .v (.string k1.name), ux, vx], rfl, rfl, rfl, by omega, hEG2.set (by omega) _, rfl, hap.2.1, hP0, hhd.trans hhd2, ?_, by simp only [List.length_append, List.length_cons, List.length_nil]; omega, ?_, ?_, ?_, hTw2⟩
    · rw [hsp, hsp2, List.reverse_append]; simp
    · rw [List.length_append]
      exact (r6'.set (r6'.notlow (by omega)) _).low (by omega)
    · rw [List.map_append]
      exact hX.snoc hP1
    · have hh : hidC ((d ++ [(k1, hid)]).map (·.2)) = hidC (d.map (·.2)) ++ [abl hid] := by simp [hidC]
      rw [List.length_append, hh]
      exact (v6.set (v6.notlow (by omega)) _).low (by omega)
end Go.Proofs.Ytooaiddfokbffaa.E

/- tele.Spine, as the code does it. Conditions: none. -/
set_option linter.unusedVariables false
set_option linter.unusedSimpArgs false
namespace Go.Proofs.Ytooaiddfokbffaa.E
open Go Go.Proofs
attribute [local go_sem] s_seq s_ops s_draw s_block s_skip s_ret s_exit i_nil i_cons i_run i_runG s_condQ c_true c_false aop ev_t ev_c updO_at updO_no upd_at t_normal t_ret t_exit b_normal b_ret b_exit a_some ac_v ac_agg ac_ptr ac_slc ac_ro ac_rop ac_fn new_next set_next argTm_zero argTm_succ argTm_nil ab_bool ab_uv beq_self_eq_true Option.some_beq_some Bool.not_not beq_iff_eq decide_true decide_false Bool.not_true Bool.not_false afld aload astore apack alen_str alen_ro alen_slc alen_nil new_get set_get ite_true ite_false Option.map_some Option.bind_some ibin isShift Nat.add_zero Nat.zero_add List.length_cons List.length_nil List.drop_zero List.drop_succ_cons List.take_succ_cons List.take_zero if_true if_false setL List.set_cons_zero List.set_cons_succ List.all_cons List.all_nil one_int one_bool one_str one_nil one_ptr one_slc one_ro one_rop one_fn Bool.and_self Bool.and_true true_and and_true and_self Bool.false_eq_true post_ret post_normal resAll resOne packR Option.some.injEq exists_eq_left' List.map_cons List.map_nil List.nil_append List.append_nil List.cons_append d_nil d_cons k_nil k_cons g_op g_same g_new avBlock forall_eq' List.getElem?_cons_succ List.getElem?_cons_zero List.getElem?_nil okind gOk bne false_imp_iff forall_const imp_self implies_true true_imp_iff i_callG

theorem KsX.at {ks : List Tm} {l : List AV} (h : KsX ks l) {i : Nat} (hi : i < ks.length) : ∃ c, (l.drop (i * 6)).take 6 = c ∧ i * 6 + 6 ≤ l.length ∧ TmP ks[i] c := by
  obtain ⟨ps, h1, h2, h3⟩ := ksX_iff.1 h
  have hi' : i < ps.length := by omega
  obtain ⟨q1, q2⟩ := h1.at hi'
  exact ⟨ps[i], q1, q2, h3 i _ _ (List.getElem?_eq_getElem hi) (List.getElem?_eq_getElem hi')⟩
theorem KsX.set {ks : List Tm} {l : List AV} (h : KsX ks l) {i : Nat} (hi : i < ks.length) {k : Tm} {c : List AV} (hc : TmP k c) : KsX (ks.set i k) (setL l (i * 6) c) := by
  obtain ⟨ps, h1, h2, h3⟩ := ksX_iff.1 h
  refine ksX_iff.2 ⟨_, h1.set (by omega) hc.1.len, by simp [h2], fun j k' p hk hp => ?_⟩
  by_cases hj : j = i
  · subst hj
    rw [List.getElem?_set_self hi] at hk
    rw [List.getElem?_set_self (by omega)] at hp
    cases hk; cases hp
    exact hc
  · rw [List.getElem?_set_ne (fun h => hj h.symm)] at hk hp
    exact h3 j k' p hk hp
def mixK (ks : List Tm) (i : Nat) : List Tm := cleanK (ks.take i) ++ ks.drop i
theorem mixK_len (ks : List Tm) (i : Nat) : (mixK ks i).length = ks.length := by
  unfold mixK
  rw [List.length_append, cleanK_len, List.length_take, List.length_drop]; omega
theorem mixK_at {ks : List Tm} {i : Nat} (hi : i < ks.length) : (mixK ks i)[i]? = some ks[i] := by
  have hl : (cleanK (ks.take i)).length = i := by rw [cleanK_len, List.length_take]; omega
  unfold mixK
  rw [List.getElem?_append_right (by omega), hl, Nat.sub_self, List.getElem?_drop, Nat.add_zero, List.getElem?_eq_getElem hi]
theorem mixK_step {ks : List Tm} {i : Nat} (hi : i < ks.length) : (mixK ks i).set i (cleanT ks[i]) = mixK ks (i + 1) := by
  have hl : (cleanK (ks.take i)).length = i := by rw [cleanK_len, List.length_take]; omega
  unfold mixK
  rw [cleanK_take ks i hi, List.drop_eq_getElem_cons hi, List.set_append_right _ _ (by omega), hl, Nat.sub_self, List.set_cons_zero, List.append_assoc]
  rfl

mutual
theorem spT_all {p : Tm → Prop} : ∀ t, Tm.All p t → ∀ x ∈ spT t, Tm.All p x.1
  | .mk f n h s lv ks, ha, x, hx => by
    rw [spT] at hx
    split at hx
    · simp only [Tm.All] at ha
      exact spK_all ks ha.2 h x hx
    · cases hx
theorem spK_all {p : Tm → Prop} : ∀ ks, Tm.AllL p ks → ∀ h, ∀ x ∈ spK h ks, Tm.All p x.1
  | [], _, h, x, hx => by rw [spK] at hx; cases hx
  | k :: r, ha, h, x, hx => by
    simp only [Tm.AllL] at ha
    cases r with
    | nil =>
      have hx : x ∈ spT k ++ [] := hx
      rw [List.append_nil] at hx
      exact spT_all k ha.1 x hx
    | cons a r =>
      have hx : x ∈ spT k ++ [(a, h)] := hx
      rcases List.mem_append.1 hx with hx | hx
      · exact spT_all k ha.1 x hx
      · simp only [Tm.AllL] at ha
        simp at hx
        rw [hx]
        exact ha.2.1
end
mutual
theorem hdT_all {p : Tm → Prop} : ∀ t, Tm.All p t → Tm.All p (hdT t)
  | .mk f n h s lv ks, ha => by
    rw [hdT]
    split
    · cases ks with
      | nil => exact ha
      | cons k r =>
        simp only [Tm.All, Tm.AllL] at ha
        exact hdT_all k ha.2.1
    · exact ha
end
mutual
theorem spT_sz : ∀ t, ∀ x ∈ spT t, szT x.1 ≤ szT t ∧ htT x.1 ≤ htT t
  | .mk f n h s lv ks, x, hx => by
    rw [spT] at hx
    split at hx
    · have := spK_sz ks h x hx
      simp only [szT, htT]; omega
    · cases hx
theorem spK_sz : ∀ ks, ∀ h, ∀ x ∈ spK h ks, szT x.1 ≤ szK ks ∧ htT x.1 ≤ htK ks
  | [], h, x, hx => by rw [spK] at hx; cases hx
  | k :: r, h, x, hx => by
    cases r with
    | nil =>
      have hx : x ∈ spT k ++ [] := hx
      rw [List.append_nil] at hx
      have := spT_sz k x hx
      simp only [szK, htK]; omega
    | cons a r =>
      have hx : x ∈ spT k ++ [(a, h)] := hx
      rcases List.mem_append.1 hx with hx | hx
      · have := spT_sz k x hx
        simp only [szK, htK]; omega
      · simp at hx
        rw [hx]
        simp only [szK, htK]; omega
end
mutual
theorem hdT_sz : ∀ t, szT (hdT t) ≤ szT t ∧ htT (hdT t) ≤ htT t
  | .mk f n h s lv ks => by
    rw [hdT]
    split
    · cases ks with
      | nil => exact ⟨Nat.le_refl _, Nat.le_refl _⟩
      | cons k r =>
        have := hdT_sz k
        simp only [hdK, szT, htT, szK, htK]; omega
    · exact ⟨Nat.le_refl _, Nat.le_refl _⟩
end

theorem HidR.one {hs : List Bool} {x : AV} (h : HidR hs x) : x.one = true := by
  rcases h with ⟨_, rfl⟩ | ⟨lo, ex, cs, rfl, _⟩ <;> rfl
theorem HidR.cells {hs : List Bool} {x : AV} (h : HidR hs x) : x.acells = [x] := by
  rcases h with ⟨_, rfl⟩ | ⟨lo, ex, cs, rfl, _⟩ <;> rfl
theorem hidC_old (n : Nat) (hs : List Bool) : ∀ y ∈ hidC hs, Old n y := by
  intro y hy
  obtain ⟨b, _, rfl⟩ := List.mem_map.1 hy
  exact .v _
theorem hid_of {hs : List Bool} {y : AV} (h : (hs.length = 0 ∧ y = .v (.slice none 0 0)) ∨ ∃ lo ex, y = .ro hs.length lo ex (hidC hs) ∧ hs.length ≤ lo) : HidR hs y := by
  rcases h with h | ⟨lo, ex, rfl, h⟩
  · exact .inl h
  · exact .inr ⟨lo, ex, _, rfl, h, by rw [List.take_of_length_le (by simp [hidC])]; rfl⟩

/-- What Spine answers. -/
def SpR (f : Tm) (ks : List Tm) (hs : List Bool) (r : AV) : Prop := ∃ c x y, r = .tup [.agg c, x, y] ∧ TmP f c ∧ SlK ks x ∧ HidR hs y

set_option maxRecDepth 100000 in
theorem spine_ok (t : Tm) (ha : Tm.All TmB t) (hc : checkF canF t = 0) (cells : List AV) (hT : TmP t cells) (H : AHeap) :
    SCall Try.prog 30 [.agg cells] H fun r H' => SpR (cleanT (hdT t)) (cleanK ((spT t).map (·.1))) ((spT t).map (·.2)) r ∧ H' = H := by
  have hT' := hT
  obtain ⟨lx0, kx0, hc6, p1, p2, p3, p4, p5, p6, p7, p8⟩ := hT.six
  subst hc6
  have e1 : ¬ H.next = H.next + 1 := by omega
  have e2 : ¬ H.next + 1 = H.next := by omega
  have hap := form_ap canF t (check_form hc).2
  obtain ⟨hz1, hz2⟩ := check_sz hc
  generalize hks : (spT t).map (·.1) = ks
  generalize hhs : (spT t).map (·.2) = hs
  have hkl : ks.length = (spT t).length := by rw [← hks]; simp
  have hhl : hs.length = (spT t).length := by rw [← hhs]; simp
  have hkb : ∀ k ∈ ks, Tm.All TmB k ∧ szT k ≤ 20000 ∧ htT k ≤ 500 := by
    intro k hk
    rw [← hks] at hk
    obtain ⟨x, hx, rfl⟩ := List.mem_map.1 hk
    have := spT_sz t x hx
    exact ⟨spT_all t ha x hx, by omega, by omega⟩
  have hfb := hdT_all t ha
  have hfz := hdT_sz t
  refine SCall.frz (R := fun r H' => Ext H H' ∧ ∃ y, FrzN H.next H' r y ∧ SpR (cleanT (hdT t)) (cleanK ks) hs y) (SCall.intro mixed cf30 ?_) (fun _ _ x H' ⟨h1, y, h2, h3⟩ _ => ⟨h1, y, h2, h3⟩)
  simp -implicitDefEqProofs only [c30, go_sem, Nat.reduceEqDiff, Nat.reduceAdd, Nat.reduceLeDiff, ↓reduceIte, reduceCtorEq, Int.reduceBEq, Int.reduceBNe, Int.reduceLT, Int.reduceLE, Int.reduceGT, Int.reduceGE, Int.reduceNeg, Int.reduceAdd, Int.reduceSub, Nat.reduceMul, Nat.reduceLT, Int.reduceToNat, p1, p2, p3, p4, e1, e2]
  refine i_callA (fs := []) (cs := []) ?_ ?_ (check_ok canF t (tmb_fine ha) _ hT'.1 _) ?_
  · rfl
  · simp -implicitDefEqProofs only [go_sem, Nat.reduceEqDiff, Nat.reduceAdd, Nat.reduceLeDiff, ↓reduceIte, reduceCtorEq, Int.reduceBEq, Int.reduceBNe, Int.reduceLT, Int.reduceLE, Int.reduceGT, Int.reduceGE, Int.reduceNeg, Int.reduceAdd, Int.reduceSub, Nat.reduceMul, Nat.reduceLT, Int.reduceToNat]
  rw [hc]
  rintro x H3 ⟨rfl, rfl⟩
  simp -implicitDefEqProofs only [go_sem, Nat.reduceEqDiff, Nat.reduceAdd, Nat.reduceLeDiff, ↓reduceIte, reduceCtorEq, Int.reduceBEq, Int.reduceBNe, Int.reduceLT, Int.reduceLE, Int.reduceGT, Int.reduceGE, Int.reduceNeg, Int.reduceAdd, Int.reduceSub, Nat.reduceMul, Nat.reduceLT, Int.reduceToNat, p1, p2, p3, p4, e1, e2]
  refine i_callA (fs := []) (cs := []) (fid := 88) ?_ ?_ (rawSpine_ok t hap hz1 _ hT' _) ?_
  · rfl
  · simp -implicitDefEqProofs only [go_sem, Nat.reduceEqDiff, Nat.reduceAdd, Nat.reduceLeDiff, ↓reduceIte, reduceCtorEq, Int.reduceBEq, Int.reduceBNe, Int.reduceLT, Int.reduceLE, Int.reduceGT, Int.reduceGE, Int.reduceNeg, Int.reduceAdd, Int.reduceSub, Nat.reduceMul, Nat.reduceLT, Int.reduceToNat]
  rw [hks, hhs]
  rintro r H1 ⟨c, x, y, l, rfl, hcf, hO, hX, hO2, hTw, hE1, hle⟩
  obtain ⟨ux, vx, hk6, o1, o2, o3, o4, o5, o6, o7, o8⟩ := hcf.six
  have hn1 : H.next + 2 ≤ H1.next := hE1.1
  have g1 : H1.get (H.next + 1) = some (.cells z6) := by
    rw [hE1.2 _ (by simp only [new_next]; omega), new_get]; exact if_pos rfl
  have hEH : Ext H H1 := Ext.trans (((Ext.refl H).new _).new _) hE1
  simp only [new_next] at hO hO2
  subst hk6
  have m1 : ¬ H.next + 1 = H1.next := by omega
  have m2 : ¬ H1.next = H.next + 1 := by omega
  rw [← hkl] at hO hO2 hle
  simp -implicitDefEqProofs only [go_sem, Nat.reduceEqDiff, Nat.reduceAdd, Nat.reduceLeDiff, ↓reduceIte, reduceCtorEq, Int.reduceBEq, Int.reduceBNe, Int.reduceLT, Int.reduceLE, Int.reduceGT, Int.reduceGE, Int.reduceNeg, Int.reduceAdd, Int.reduceSub, Nat.reduceMul, Nat.reduceLT, Int.reduceToNat, o1, o2, o3, o4, fun G => hO.alen G, hO.one, hO.cells, hO2.one, hO2.cells, m1, m2]
  refine swp_range ks.length (fun i st => st.tm 1 = .ptr H.next 0 ∧ st.tm 2 = .ptr (H.next + 1) 0 ∧ st.tm 5 = .ptr H1.next 0 ∧ st.tm 6 = x ∧ st.tm 7 = y ∧ st.tm 20 = x ∧ st.tm 21 = aint ks.length ∧ st.tm 22 = aint i ∧ H1.next + 1 ≤ st.heap.next ∧ Ext H st.heap ∧ st.heap.get (H.next + 1) = some (.cells z6) ∧
    st.heap.get H1.next = some (.cells [aint (hdT t).form, aint (hdT t).n, abl (hdT t).hid, .v (.string (hdT t).name), ux, vx]) ∧ ∃ l', OutS st.heap (H.next + 2) 6 ks.length l' x ∧ KsX (mixK ks i) l' ∧ OutS st.heap (H.next + 2) 1 ks.length (hidC hs) y) ?_ ?_ ?_
  · refine ⟨rfl, rfl, rfl, rfl, rfl, rfl, rfl, rfl, Nat.le_refl _, (hEH.new _).set (by omega) _, ?_, ?_, l, ?_, ?_, ?_⟩
    · simp -implicitDefEqProofs only [go_sem, Nat.reduceEqDiff, Nat.reduceAdd, Nat.reduceLeDiff, ↓reduceIte, reduceCtorEq, Int.reduceBEq, Int.reduceBNe, Int.reduceLT, Int.reduceLE, Int.reduceGT, Int.reduceGE, Int.reduceNeg, Int.reduceAdd, Int.reduceSub, Nat.reduceMul, Nat.reduceLT, Int.reduceToNat, m1, g1]
    · simp -implicitDefEqProofs only [go_sem, Nat.reduceEqDiff, Nat.reduceAdd, Nat.reduceLeDiff, ↓reduceIte, reduceCtorEq, Int.reduceBEq, Int.reduceBNe, Int.reduceLT, Int.reduceLE, Int.reduceGT, Int.reduceGE, Int.reduceNeg, Int.reduceAdd, Int.reduceSub, Nat.reduceMul, Nat.reduceLT, Int.reduceToNat]
    · exact (hO.new _).set (hO.high (Nat.le_refl _)) _
    · unfold mixK; simpa [cleanK] using hX
    · exact (hO2.new _).set (hO2.high (Nat.le_refl _)) _
  · rintro i ⟨tm, H2⟩ hi ⟨t1, t2, t5, t6, t7, t20, t21, t22, hnx, hE, y1, y2, l', hOi, hXi, hO2i⟩
    simp only at t1 t2 t5 t6 t7 t20 t21 t22 hnx hE y1 y2 hOi hO2i
    have hltI : (i : Int) < (ks.length : Int) := by omega
    have w3 : IntKind.i64.wrap ((i : Int) + 1) = (i : Int) + 1 := i64_ok _ (by omega)
    obtain ⟨b, hb1, hb2, hxs, hbg, hbl⟩ : ∃ b, H.next + 2 ≤ b ∧ b < H2.next ∧ x = .slc b 0 6 ks.length ks.length false ∧ H2.get b = some (.cells l') ∧ l'.length = ks.length * 6 := by
      rcases hOi with ⟨h0, _⟩ | h
      · omega
      · exact h
    have hbx : b < H1.next := by
      rcases hO with ⟨h0, _⟩ | ⟨b', _, h2, h3, _⟩
      · omega
      · rw [hxs] at h3; injection h3 with h3; omega
    have hix : aix 6 (i : Int) x = some (.ptr b (i * 6)) := by
      rw [hxs]; simp only [aix]
      rw [if_pos (by omega)]
      simp
    obtain ⟨kc, hld, hle6, hkP'⟩ := hXi.at (i := i) (by rw [mixK_len]; exact hi)
    have hkm := List.getElem_mem hi
    have hmx : (mixK ks i)[i]'(by rw [mixK_len]; exact hi) = ks[i] := by
      have := mixK_at hi
      rw [List.getElem?_eq_getElem (by rw [mixK_len]; exact hi)] at this
      exact Option.some.inj this
    rw [hmx] at hkP'
    obtain ⟨kb1, kb2, kb3⟩ := hkb _ hkm
    obtain ⟨ax1, bx1, hk7, s1, s2, s3, s4, s5, s6, s7, s8⟩ := hkP'.six
    have n1 : ¬ H.next + 1 = H2.next := by omega
    have n2 : ¬ H1.next = H2.next := by omega
    have n3 : ¬ b = H2.next := by omega
    subst hk7
    simp -implicitDefEqProofs only [go_sem, Nat.reduceEqDiff, Nat.reduceAdd, Nat.reduceLeDiff, ↓reduceIte, reduceCtorEq, Int.reduceBEq, Int.reduceBNe, Int.reduceLT, Int.reduceLE, Int.reduceGT, Int.reduceGE, Int.reduceNeg, Int.reduceAdd, Int.reduceSub, Nat.reduceMul, Nat.reduceLT, Int.reduceToNat, t1, t2, t5, t6, t7, t20, t21, t22, hltI, hix, hbg, hle6, hld, s1, s2, s3, s4, afill]
    refine i_callA (fs := []) (cs := []) (fid := 76) ?_ ?_ (copy_ok ks[i] kb1 (by omega) (by omega) _ hkP' _) ?_
    · rfl
    · simp -implicitDefEqProofs only [go_sem, Nat.reduceEqDiff, Nat.reduceAdd, Nat.reduceLeDiff, ↓reduceIte, reduceCtorEq, Int.reduceBEq, Int.reduceBNe, Int.reduceLT, Int.reduceLE, Int.reduceGT, Int.reduceGE, Int.reduceNeg, Int.reduceAdd, Int.reduceSub, Nat.reduceMul, Nat.reduceLT, Int.reduceToNat]
    rintro z H4 ⟨⟨xc, rfl, hxc⟩, hHH⟩
    have hHH := hHH.symm
    subst hHH
    have hset := hXi.set (i := i) (by rw [mixK_len]; exact hi) hxc
    rw [mixK_step hi] at hset
    obtain ⟨_, _, _, _, _, _, _, _, _, x7, x8⟩ := hxc.six
    simp -implicitDefEqProofs only [go_sem, Nat.reduceEqDiff, Nat.reduceAdd, Nat.reduceLeDiff, ↓reduceIte, reduceCtorEq, Int.reduceBEq, Int.reduceBNe, Int.reduceLT, Int.reduceLE, Int.reduceGT, Int.reduceGE, Int.reduceNeg, Int.reduceAdd, Int.reduceSub, Nat.reduceMul, Nat.reduceLT, Int.reduceToNat, t1, t2, t5, t6, t7, t20, t21, t22, hix, hbg, hle6, x7, x8, n1, n2, n3, w3]
    have hyb : avBlock y ≠ some b := hTw b (by rw [hxs]; rfl)
    refine ⟨by simp, by omega, ((hE.new _).set (by omega) _).set (by omega) _, by rw [if_neg (by omega)]; exact y1, by rw [if_neg (by omega)]; exact y2, setL l' (i * 6) xc, ?_, hset, ?_⟩
    · exact .inr ⟨b, hb1, by simp only [set_next, new_next]; omega, hxs, by rw [set_get, if_pos rfl], by rw [setL_length]; exact hbl⟩
    · exact ((hO2i.new _).set (hO2i.high (Nat.le_refl _)) _).set (hO2i.slcb hyb) _
  · rintro ⟨tm, H2⟩ ⟨t1, t2, t5, t6, t7, t20, t21, t22, hnx, hE, y1, y2, l', hOi, hXi, hO2i⟩
    simp only at t1 t2 t5 t6 t7 t20 t21 t22 hnx hE y1 y2 hOi hO2i
    simp -implicitDefEqProofs only [go_sem, Nat.reduceEqDiff, Nat.reduceAdd, Nat.reduceLeDiff, ↓reduceIte, reduceCtorEq, Int.reduceBEq, Int.reduceBNe, Int.reduceLT, Int.reduceLE, Int.reduceGT, Int.reduceGE, Int.reduceNeg, Int.reduceAdd, Int.reduceSub, Nat.reduceMul, Nat.reduceLT, Int.reduceToNat, t1, t2, t5, t6, t7, t20, t21, t22, Int.lt_irrefl, y1, y2, o1, o2, o3, o4]
    refine i_callA (fs := []) (cs := []) (fid := 76) ?_ ?_ (copy_ok (hdT t) hfb (by omega) (by omega) _ hcf _) ?_
    · rfl
    · simp -implicitDefEqProofs only [go_sem, Nat.reduceEqDiff, Nat.reduceAdd, Nat.reduceLeDiff, ↓reduceIte, reduceCtorEq, Int.reduceBEq, Int.reduceBNe, Int.reduceLT, Int.reduceLE, Int.reduceGT, Int.reduceGE, Int.reduceNeg, Int.reduceAdd, Int.reduceSub, Nat.reduceMul, Nat.reduceLT, Int.reduceToNat]
    rintro z H4 ⟨⟨xc, rfl, hxc⟩, hHH⟩
    have hHH := hHH.symm
    subst hHH
    obtain ⟨ax1, bx1, hk7, s1, s2, s3, s4, s5, s6, s7, s8⟩ := hxc.six
    subst hk7
    simp -implicitDefEqProofs only [go_sem, Nat.reduceEqDiff, Nat.reduceAdd, Nat.reduceLeDiff, ↓reduceIte, reduceCtorEq, Int.reduceBEq, Int.reduceBNe, Int.reduceLT, Int.reduceLE, Int.reduceGT, Int.reduceGE, Int.reduceNeg, Int.reduceAdd, Int.reduceSub, Nat.reduceMul, Nat.reduceLT, Int.reduceToNat, t1, t2, t5, t6, t7, y1, s1, s2, s3, s4, hOi.one, hOi.cells, hO2i.one, hO2i.cells]
    refine ⟨hE.set (by omega) _, ?_⟩
    have hm : mixK ks ks.length = cleanK ks := by unfold mixK; simp
    rw [hm] at hXi
    have hOf := hOi.set (b' := H.next + 1) (hOi.notlow (by omega)) (.cells [aint (cleanT (hdT t)).form, aint (cleanT (hdT t)).n, abl (cleanT (hdT t)).hid, .v (.string (cleanT (hdT t)).name), ax1, bx1])
    have hOg := hO2i.set (b' := H.next + 1) (hO2i.notlow (by omega)) (.cells [aint (cleanT (hdT t)).form, aint (cleanT (hdT t)).n, abl (cleanT (hdT t)).hid, .v (.string (cleanT (hdT t)).name), ax1, bx1])
    obtain ⟨zx, f1, f2⟩ := hOf.frzOld (N := H.next) (by omega) (fun y hy => (hXi.old y hy).mono (Nat.zero_le _))
    obtain ⟨zy, f3, f4⟩ := hOg.frzOld (N := H.next) (by omega) (hidC_old _ _)
    rw [← cleanK_len ks] at f2
    rw [hkl, ← hhl] at f4
    refine ⟨.tup [.agg [aint (cleanT (hdT t)).form, aint (cleanT (hdT t)).n, abl (cleanT (hdT t)).hid, .v (.string (cleanT (hdT t)).name), ax1, bx1], zx, zy], .tup _ _ rfl fun i x y hx hy => ?_, _, zx, zy, rfl, hxc, SlK.of hXi f2, hid_of f4⟩
    match i, hx, hy with
    | 0, hx, hy => simp at hx hy; subst hx hy; exact .keep _ (.agg _ fun z hz => (hxc.2 z hz).mono (Nat.zero_le _))
    | 1, hx, hy => simp at hx hy; subst hx hy; exact f1
    | 2, hx, hy => simp at hx hy; subst hx hy; exact f3
    | i + 3, hx, hy => simp at hx
end Go.Proofs.Ytooaiddfokbffaa.E

/- The reference's Spine. Conditions: none. -/
set_option linter.unusedVariables false
set_option linter.unusedSimpArgs false
namespace Go.Proofs.Ytooaiddfokbffaa.E
open Go Go.Proofs
attribute [local go_sem] s_seq s_ops s_draw s_block s_skip s_ret s_exit i_nil i_cons i_run i_runG s_condQ c_true c_false aop ev_t ev_c updO_at updO_no upd_at t_normal t_ret t_exit b_normal b_ret b_exit a_some ac_v ac_agg ac_ptr ac_slc ac_ro ac_rop ac_fn new_next set_next argTm_zero argTm_succ argTm_nil ab_bool ab_uv beq_self_eq_true Option.some_beq_some Bool.not_not beq_iff_eq decide_true decide_false Bool.not_true Bool.not_false afld aload astore apack alen_str alen_ro alen_slc alen_nil new_get set_get ite_true ite_false Option.map_some Option.bind_some ibin isShift Nat.add_zero Nat.zero_add List.length_cons List.length_nil List.drop_zero List.drop_succ_cons List.take_succ_cons List.take_zero if_true if_false setL List.set_cons_zero List.set_cons_succ List.all_cons List.all_nil one_int one_bool one_str one_nil one_ptr one_slc one_ro one_rop one_fn Bool.and_self Bool.and_true true_and and_true and_self Bool.false_eq_true post_ret post_normal resAll resOne packR Option.some.injEq exists_eq_left' List.map_cons List.map_nil List.nil_append List.append_nil List.cons_append d_nil d_cons k_nil k_cons g_op g_same g_new avBlock forall_eq' List.getElem?_cons_succ List.getElem?_cons_zero List.getElem?_nil okind gOk bne false_imp_iff forall_const imp_self implies_true true_imp_iff i_callG

theorem spT_app (n : Int) (hid : Bool) (s : ByteArray) (lv : List Lv) (k0 k1 : Tm) : spT (.mk 5 n hid s lv [k0, k1]) = spT k0 ++ [(k1, hid)] := by rw [spT, if_pos rfl]; rfl
theorem hdT_app (n : Int) (hid : Bool) (s : ByteArray) (lv : List Lv) (k0 k1 : Tm) : hdT (.mk 5 n hid s lv [k0, k1]) = hdT k0 := by rw [hdT, if_pos rfl]; rfl
theorem spT_no {f n : Int} {hid : Bool} {s : ByteArray} {lv : List Lv} {ks : List Tm} (hf : f ≠ 5) : spT (.mk f n hid s lv ks) = [] := by rw [spT, if_neg hf]
theorem hdT_no {f n : Int} {hid : Bool} {s : ByteArray} {lv : List Lv} {ks : List Tm} (hf : f ≠ 5) : hdT (.mk f n hid s lv ks) = .mk f n hid s lv ks := by rw [hdT, if_neg hf]
mutual
theorem spT_len : ∀ t, (spT t).length ≤ szT t
  | .mk f n h s lv ks => by
    rw [spT]
    split
    · have := spK_len ks h
      simp only [szT]; omega
    · simp
theorem spK_len : ∀ ks, ∀ h, (spK h ks).length ≤ szK ks + 1
  | [], h => by simp [spK]
  | k :: r, h => by
    have := spT_len k
    cases r with
    | nil =>
      have he : spK h [k] = spT k ++ [] := rfl
      rw [he, List.append_nil]; simp only [szK]; omega
    | cons a r =>
      have he : spK h (k :: a :: r) = spT k ++ [(a, h)] := rfl
      rw [he, List.length_append]; simp only [szK, List.length_cons, List.length_nil]; omega
end

/-- The two parts of an application, out of its cells. -/
theorem app_parts {n : Int} {hid : Bool} {s : ByteArray} {lv : List Lv} {ks : List Tm} {c : List AV} (hap : Tm.All Ap (.mk 5 n hid s lv ks)) (hu : TmP (.mk 5 n hid s lv ks) c) :
    ∃ (k0 k1 : Tm) (lx kx : AV) (cs kc0 kc1 : List AV), ks = [k0, k1] ∧ c = [aint 5, aint n, abl hid, .v (.string s), lx, kx] ∧ lx.one = true ∧ lx.acells = [lx] ∧ kx.one = true ∧ kx.acells = [kx] ∧ aix 6 (0 : Int) kx = some (.rop cs 0) ∧ aix 6 (1 : Int) kx = some (.rop cs 6) ∧ 12 ≤ cs.length ∧
      cs.take 6 = kc0 ∧ (cs.drop 6).take 6 = kc1 ∧ TmP k0 kc0 ∧ TmP k1 kc1 ∧ Tm.All Ap k0 := by
  simp only [Tm.All, Ap, Tm.form, Tm.kids] at hap
  have hk2l : ks.length = 2 := hap.1 trivial
  obtain ⟨k0, k1, rfl⟩ : ∃ a b, ks = [a, b] := by
    match ks, hk2l with
    | [a, b], _ => exact ⟨a, b, rfl⟩
  simp only [Tm.AllL] at hap
  obtain ⟨lx, kx, ls, cs, rfl, hl1, hl2, hk1, hk2⟩ := hu.1.six
  simp only [Tm.kids] at hk1 hk2
  have hcso : ∀ y ∈ cs, Old 0 y := by
    have hko : Old 0 kx := hu.2 kx (by simp)
    rcases hk1 with ⟨h, _⟩ | ⟨lo, ex, rfl, _⟩
    · simp at h
    · cases hko with | ro _ _ _ _ h => exact h
  have hix0 := hk1.aix 6 (i := 0) (by simp)
  have hix1 := hk1.aix 6 (i := 1) (by simp)
  obtain ⟨kc0, hkc0, hle0, hld0⟩ := hk2.load (i := 0) (k := k0) rfl
  obtain ⟨kc1, hkc1, hle1, hld1⟩ := hk2.load (i := 1) (k := k1) rfl
  have hP0 : TmP k0 kc0 := ⟨hkc0, fun y hy => hcso y (by rw [← hld0] at hy; exact List.mem_of_mem_drop (List.mem_of_mem_take hy))⟩
  have hP1 : TmP k1 kc1 := ⟨hkc1, fun y hy => hcso y (by rw [← hld1] at hy; exact List.mem_of_mem_drop (List.mem_of_mem_take hy))⟩
  exact ⟨k0, k1, lx, kx, cs, kc0, kc1, rfl, rfl, hl1.one, hl1.cells, hk1.one, hk1.cells, hix0, hix1, by omega, by simpa using hld0, by simpa using hld1, hP0, hP1, hap.2.1⟩

theorem make_bools (n : Nat) (hn : n ≤ 140737488351232) (G : AHeap) : amake [abl false] 1 G (aint n) (aint n) = some (.slc G.next 0 1 n n true, G.new (.cells (List.replicate n [abl false]).flatten)) := by
  simp only [amake]
  rw [if_pos ⟨by omega, by omega, by omega, by omega, by simp⟩]
  simp

set_option maxRecDepth 100000 in
theorem spine2_ok (t : Tm) (ha : Tm.All Ap t) (hz : szT t ≤ 20000) (cells : List AV) (hT : TmP t cells) (H : AHeap) :
    SCall Try.prog 31 [.agg cells] H fun r H' => SpR (hdT t) ((spT t).map (·.1)) ((spT t).map (·.2)) r ∧ H' = H := by
  have hT' := hT
  obtain ⟨lx0, kx0, hc6, p1, p2, p3, p4, p5, p6, p7, p8⟩ := hT.six
  have e1 : ¬ H.next = H.next + 1 := by omega
  have e2 : ¬ H.next + 1 = H.next := by omega
  have e3 : ¬ H.next = H.next + 1 + 1 := by omega
  have e4 : ¬ H.next + 1 = H.next + 1 + 1 := by omega
  have hsl := spT_len t
  refine SCall.frz (R := fun r H' => Ext H H' ∧ ∃ y, FrzN H.next H' r y ∧ SpR (hdT t) ((spT t).map (·.1)) ((spT t).map (·.2)) y) ?_ (fun _ _ x H' ⟨h1, y, h2, h3⟩ _ => ⟨h1, y, h2, h3⟩)
  subst hc6
  refine SCall.intro mixed cf31 ?_
  simp -implicitDefEqProofs only [c31, go_sem, Nat.reduceEqDiff, Nat.reduceAdd, Nat.reduceLeDiff, ↓reduceIte, reduceCtorEq, Int.reduceBEq, Int.reduceBNe, Int.reduceLT, Int.reduceLE, Int.reduceGT, Int.reduceGE, Int.reduceNeg, Int.reduceAdd, Int.reduceSub, Nat.reduceMul, Nat.reduceLT, Int.reduceToNat, p1, p2, p3, p4, e1, e2, e3, e4]
  refine swp_loop (fun k st => ∃ (u : Tm) (c : List AV) (cnt B : Nat), k = szT u ∧ st.tm 1 = .ptr H.next 0 ∧ st.tm 2 = .ptr (H.next + 1) 0 ∧ st.tm 5 = aint cnt ∧ st.tm 6 = .ptr B 0 ∧ H.next + 2 ≤ B ∧ B < st.heap.next ∧ Ext H st.heap ∧ st.heap.get H.next = some (.cells [aint t.form, aint t.n, abl t.hid, .v (.string t.name), lx0, kx0]) ∧ st.heap.get (H.next + 1) = some (.cells z6) ∧
    st.heap.get B = some (.cells c) ∧ Tm.All Ap u ∧ TmP u c ∧ (spT t).length = (spT u).length + cnt) (k := szT t) ?_ ?_
  · refine ⟨t, _, 0, H.next + 1 + 1, rfl, rfl, rfl, rfl, rfl, by omega, ?_, ((((Ext.refl H).new _).new _).new _).set (by omega) _, ?_, ?_, ?_, ha, hT', by simp⟩
    · show H.next + 1 + 1 < H.next + 1 + 1 + 1
      omega
    all_goals simp -implicitDefEqProofs only [go_sem, Nat.reduceEqDiff, Nat.reduceAdd, Nat.reduceLeDiff, ↓reduceIte, reduceCtorEq, Int.reduceBEq, Int.reduceBNe, Int.reduceLT, Int.reduceLE, Int.reduceGT, Int.reduceGE, Int.reduceNeg, Int.reduceAdd, Int.reduceSub, Nat.reduceMul, Nat.reduceLT, Int.reduceToNat, e1, e2, e3, e4]
  · rintro k ⟨tm, H2⟩ ⟨u, c, cnt, B, rfl, t1, t2, t5, t6, hB1, hB2, hE, g0, g1, gB, hap, hu, hlen⟩
    simp only at t1 t2 t5 t6 hB2 hE g0 g1 gB
    obtain ⟨f, n, hid, s, lv, ks⟩ := u
    by_cases hf : f = 5
    case neg =>
      have hlc : (spT t).length = cnt := by rw [hlen, spT_no hf]; simp
      obtain ⟨ux, vx, hk6, o1, o2, o3, o4, o5, o6, o7, o8⟩ := hu.six
      simp only [Tm.form, Tm.n, Tm.hid, Tm.name] at hk6
      subst hk6
      simp -implicitDefEqProofs only [go_sem, Nat.reduceEqDiff, Nat.reduceAdd, Nat.reduceLeDiff, ↓reduceIte, reduceCtorEq, Int.reduceBEq, Int.reduceBNe, Int.reduceLT, Int.reduceLE, Int.reduceGT, Int.reduceGE, Int.reduceNeg, Int.reduceAdd, Int.reduceSub, Nat.reduceMul, Nat.reduceLT, Int.reduceToNat, t1, t2, t5, t6, g0, g1, gB, bne' hf, fun G => make_kids cnt (by omega) G, fun G => make_bools cnt (by omega) G]
      have wc : IntKind.i64.wrap ((cnt : Int) - 1) = (cnt : Int) - 1 := i64_ok _ (by omega)
      have hre1 : (List.replicate cnt z6).flatten.length = cnt * 6 := by simp
      have hre2 : (List.replicate cnt [abl false]).flatten.length = cnt := by simp
      have n0 : ¬ H.next = H2.next := by omega
      have n1 : ¬ H.next + 1 = H2.next := by omega
      have n2 : ¬ H.next = H2.next + 1 := by omega
      have n3 : ¬ H.next + 1 = H2.next + 1 := by omega
      have n4 : ¬ H2.next = H2.next + 1 := by omega
      have n5 : ¬ H2.next + 1 = H2.next := by omega
      have n6 : ¬ H2.next = H.next := by omega
      have n7 : ¬ H2.next + 1 = H.next := by omega
      refine swp_loop (fun k st => ∃ (v : Tm) (c : List AV) (i : Nat) (l l2 : List AV) (dn : List (Tm × Bool)), k = i ∧ st.tm 1 = .ptr H.next 0 ∧ st.tm 2 = .ptr (H.next + 1) 0 ∧ st.tm 7 = .slc H2.next 0 6 cnt cnt true ∧ st.tm 8 = .slc (H2.next + 1) 0 1 cnt cnt true ∧ st.tm 9 = aint ((i : Int) - 1) ∧ H2.next + 2 ≤ st.heap.next ∧ Ext H st.heap ∧
        st.heap.get H.next = some (.cells c) ∧ st.heap.get (H.next + 1) = some (.cells z6) ∧ st.heap.get H2.next = some (.cells l) ∧ l.length = cnt * 6 ∧ st.heap.get (H2.next + 1) = some (.cells l2) ∧ l2.length = cnt ∧ Tm.All Ap v ∧ TmP v c ∧ hdT t = hdT v ∧ spT t = spT v ++ dn ∧ (spT v).length = i ∧
        KsX (dn.map (·.1)) (l.drop (i * 6)) ∧ l2.drop i = hidC (dn.map (·.2))) (k := cnt) ?_ ?_
      · refine ⟨t, _, cnt, _, _, [], rfl, ?_, ?_, rfl, rfl, ?_, Nat.le_refl _, (hE.new _).new _, ?_, ?_, ?_, hre1, ?_, hre2, ha, hT', rfl, by simp, hlc, ?_, ?_⟩
        · simp -implicitDefEqProofs only [go_sem, Nat.reduceEqDiff, Nat.reduceAdd, Nat.reduceLeDiff, ↓reduceIte, reduceCtorEq, Int.reduceBEq, Int.reduceBNe, Int.reduceLT, Int.reduceLE, Int.reduceGT, Int.reduceGE, Int.reduceNeg, Int.reduceAdd, Int.reduceSub, Nat.reduceMul, Nat.reduceLT, Int.reduceToNat, t1]
        · simp -implicitDefEqProofs only [go_sem, Nat.reduceEqDiff, Nat.reduceAdd, Nat.reduceLeDiff, ↓reduceIte, reduceCtorEq, Int.reduceBEq, Int.reduceBNe, Int.reduceLT, Int.reduceLE, Int.reduceGT, Int.reduceGE, Int.reduceNeg, Int.reduceAdd, Int.reduceSub, Nat.reduceMul, Nat.reduceLT, Int.reduceToNat, t2]
        · simp -implicitDefEqProofs only [go_sem, Nat.reduceEqDiff, Nat.reduceAdd, Nat.reduceLeDiff, ↓reduceIte, reduceCtorEq, Int.reduceBEq, Int.reduceBNe, Int.reduceLT, Int.reduceLE, Int.reduceGT, Int.reduceGE, Int.reduceNeg, Int.reduceAdd, Int.reduceSub, Nat.reduceMul, Nat.reduceLT, Int.reduceToNat, wc]
        · simp -implicitDefEqProofs only [go_sem, Nat.reduceEqDiff, Nat.reduceAdd, Nat.reduceLeDiff, ↓reduceIte, reduceCtorEq, Int.reduceBEq, Int.reduceBNe, Int.reduceLT, Int.reduceLE, Int.reduceGT, Int.reduceGE, Int.reduceNeg, Int.reduceAdd, Int.reduceSub, Nat.reduceMul, Nat.reduceLT, Int.reduceToNat, n0, n2, g0]
        · simp -implicitDefEqProofs only [go_sem, Nat.reduceEqDiff, Nat.reduceAdd, Nat.reduceLeDiff, ↓reduceIte, reduceCtorEq, Int.reduceBEq, Int.reduceBNe, Int.reduceLT, Int.reduceLE, Int.reduceGT, Int.reduceGE, Int.reduceNeg, Int.reduceAdd, Int.reduceSub, Nat.reduceMul, Nat.reduceLT, Int.reduceToNat, n1, n3, g1]
        · simp -implicitDefEqProofs only [go_sem, Nat.reduceEqDiff, Nat.reduceAdd, Nat.reduceLeDiff, ↓reduceIte, reduceCtorEq, Int.reduceBEq, Int.reduceBNe, Int.reduceLT, Int.reduceLE, Int.reduceGT, Int.reduceGE, Int.reduceNeg, Int.reduceAdd, Int.reduceSub, Nat.reduceMul, Nat.reduceLT, Int.reduceToNat, n4]
        · simp -implicitDefEqProofs only [go_sem, Nat.reduceEqDiff, Nat.reduceAdd, Nat.reduceLeDiff, ↓reduceIte, reduceCtorEq, Int.reduceBEq, Int.reduceBNe, Int.reduceLT, Int.reduceLE, Int.reduceGT, Int.reduceGE, Int.reduceNeg, Int.reduceAdd, Int.reduceSub, Nat.reduceMul, Nat.reduceLT, Int.reduceToNat]
        · rw [List.drop_of_length_le (by omega)]; rfl
        · rw [List.drop_of_length_le (by omega)]; rfl
      · rintro k ⟨tm, H5⟩ ⟨v, c, i, l, l2, dn, rfl, t1, t2, t7, t8, t9, hnx, hE5, x0, x1, x2, hl, x3, hl2, hapv, hv, hhd, hsp, hsl2, hKX, hHC⟩
        simp only at t1 t2 t7 t8 t9 hnx hE5 x0 x1 x2 x3
        have hcd : cnt = k + dn.length := by rw [← hlc, hsp, List.length_append, hsl2]
        obtain ⟨vf, vn, vh, vs, vlv, vks⟩ := v
        cases k with
        | zero =>
          have hge : ¬ (((0 : Nat) : Int) - 1 ≥ 0) := by omega
          obtain ⟨cx, dx, hk8, r1, r2, r3, r4, r5, r6, r7, r8⟩ := hv.six
          subst hk8
          simp -implicitDefEqProofs only [go_sem, Nat.reduceEqDiff, Nat.reduceAdd, Nat.reduceLeDiff, ↓reduceIte, reduceCtorEq, Int.reduceBEq, Int.reduceBNe, Int.reduceLT, Int.reduceLE, Int.reduceGT, Int.reduceGE, Int.reduceNeg, Int.reduceAdd, Int.reduceSub, Nat.reduceMul, Nat.reduceLT, Int.reduceToNat, t1, t2, t7, t8, t9, hge, x0, x1, x2, x3, r1, r2, r3, r4, e1, e2, n6, n7]
          have hvf : ¬ vf = 5 := by
            rintro rfl
            obtain ⟨k0, k1, _, _, _, _, _, rfl, _⟩ := app_parts hapv hv
            rw [spT_app] at hsl2
            simp at hsl2
          have hsv : spT (.mk vf vn vh vs vlv vks) = [] := spT_no hvf
          rw [hsv, List.nil_append] at hsp
          rw [hdT_no hvf] at hhd
          rw [hhd, hsp]
          rw [Nat.zero_mul, List.drop_zero] at hKX
          rw [List.drop_zero] at hHC
          have hcd' : cnt = dn.length := by omega
          refine ⟨hE5.set (by omega) _, .tup [.agg [aint (Tm.mk vf vn vh vs vlv vks).form, aint (Tm.mk vf vn vh vs vlv vks).n, abl (Tm.mk vf vn vh vs vlv vks).hid, .v (.string (Tm.mk vf vn vh vs vlv vks).name), cx, dx], .ro cnt cnt true l, .ro cnt cnt true l2], .tup _ _ rfl fun i x y hx hy => ?_, _, _, _, rfl, hv, SlK.of hKX (.inr ⟨cnt, true, by rw [List.length_map, hcd'], by rw [List.length_map, hcd']; exact Nat.le_refl _⟩), hid_of (.inr ⟨cnt, true, by rw [List.length_map, hcd', hHC], by rw [List.length_map, hcd']; exact Nat.le_refl _⟩)⟩
          have frow : ∀ (b es n : Nat) (q : List AV), H.next ≤ b → (H5.set (H.next + 1) (.cells [aint (Tm.mk vf vn vh vs vlv vks).form, aint (Tm.mk vf vn vh vs vlv vks).n, abl (Tm.mk vf vn vh vs vlv vks).hid, .v (.string (Tm.mk vf vn vh vs vlv vks).name), cx, dx])).get b = some (.cells q) → (∀ y ∈ q, Old 0 y) →
              FrzN H.next (H5.set (H.next + 1) (.cells [aint (Tm.mk vf vn vh vs vlv vks).form, aint (Tm.mk vf vn vh vs vlv vks).n, abl (Tm.mk vf vn vh vs vlv vks).hid, .v (.string (Tm.mk vf vn vh vs vlv vks).name), cx, dx])) (.slc b 0 es n n true) (.ro n n true q) := fun b es n q h1 h2 h3 => by
            refine .slc b 0 es n n true q q h2 h1 (by omega) fun i x y hx hy => ?_
            rw [Nat.zero_add] at hx
            rw [hx] at hy
            injection hy with hy
            subst hy
            exact .keep _ ((h3 x (List.mem_of_getElem? hx)).mono (Nat.zero_le _))
          match i, hx, hy with
          | 0, hx, hy => simp at hx hy; subst hx hy; exact .keep _ (.agg _ fun z hz => (hv.2 z hz).mono (Nat.zero_le _))
          | 1, hx, hy => simp at hx hy; subst hx hy; exact frow _ _ _ _ (by omega) (by rw [set_get, if_neg (by omega)]; exact x2) hKX.old
          | 2, hx, hy => simp at hx hy; subst hx hy; exact frow _ _ _ _ (by omega) (by rw [set_get, if_neg (by omega)]; exact x3) (by rw [hHC]; exact hidC_old 0 _)
          | i + 3, hx, hy => simp at hx
        | succ j =>
          have hge : (((j + 1 : Nat) : Int) - 1 ≥ 0) := by omega
          have hvf : vf = 5 := by
            rcases Classical.em (vf = 5) with h | h
            · exact h
            · rw [spT_no h] at hsl2; simp at hsl2
          subst hvf
          obtain ⟨k0, k1, lx, kx, cs, kc0, kc1, rfl, rfl, q1, q2, q3, q4, i0, i1, l1, d0, d1, hP0, hP1, hap0⟩ := app_parts hapv hv
          obtain ⟨wx, zx, hk7, s1, s2, s3, s4, s5, s6, s7, s8⟩ := hP0.six
          obtain ⟨_, _, _, _, _, _, _, _, _, y7, y8⟩ := hP1.six
          subst hk7
          have l0 : 6 ≤ cs.length := by omega
          have l1' : 6 + 6 ≤ cs.length := by omega
          have hjx : aix 6 (((j + 1 : Nat) : Int) - 1) (.slc H2.next 0 6 cnt cnt true) = some (.ptr H2.next (j * 6)) := by
            simp only [aix]
            rw [if_pos (by omega)]
            simp
          have hjx1 : aix 1 (((j + 1 : Nat) : Int) - 1) (.slc (H2.next + 1) 0 1 cnt cnt true) = some (.ptr (H2.next + 1) j) := by
            simp only [aix]
            rw [if_pos (by omega)]
            simp
          have hj6 : j * 6 + 6 ≤ l.length := by omega
          have hj1 : j + 1 ≤ l2.length := by omega
          have wj : IntKind.i64.wrap (((j + 1 : Nat) : Int) - 1 - 1) = ((j + 1 : Nat) : Int) - 1 - 1 := i64_ok _ (by omega)
          simp -implicitDefEqProofs only [go_sem, Nat.reduceEqDiff, Nat.reduceAdd, Nat.reduceLeDiff, ↓reduceIte, reduceCtorEq, Int.reduceBEq, Int.reduceBNe, Int.reduceLT, Int.reduceLE, Int.reduceGT, Int.reduceGE, Int.reduceNeg, Int.reduceAdd, Int.reduceSub, Nat.reduceMul, Nat.reduceLT, Int.reduceToNat, t1, t2, t7, t8, t9, hge, x0, x1, x2, x3, hjx, hjx1, hj6, hj1, i0, i1, l0, l1, l1', d0, d1, q1, q2, q3, q4, s1, s2, s3, s4, y7, y8, n0, n1, n2, n3, n4, n5, n6, n7, wj]
          rw [spT_app] at hsp hsl2
          rw [hdT_app] at hhd
          have hse := setL_eq kc1 l (j * 6) (by rw [hP1.1.len]; omega)
          have hjl : j < l2.length := by omega
          refine ⟨j, by omega, k0, _, j, setL l (j * 6) kc1, l2.set j (abl vh), (k1, vh) :: dn, rfl, ?_, hnx, ((hE5.set (by omega) _).set (by omega) _).set (by omega) _, rfl, by rw [if_neg e2], rfl, by rw [setL_length]; exact hl, rfl, by rw [List.length_set]; exact hl2, hap0, hP0, hhd, by rw [hsp]; simp, by simp at hsl2; exact hsl2, ?_, ?_⟩
          · rw [show ((j + 1 : Nat) : Int) - 1 - 1 = (j : Int) - 1 by omega]
          · rw [hse, List.append_assoc, List.drop_append_of_le_length (by rw [List.length_take]; omega), List.drop_of_length_le (by rw [List.length_take]; omega), List.nil_append, hP1.1.len]
            refine ⟨kc1, _, rfl, hP1, ?_⟩
            have h6 : j * 6 + 6 = (j + 1) * 6 := by omega
            rw [h6]
            exact hKX
          · rw [List.drop_eq_getElem_cons (by rw [List.length_set]; exact hjl), List.getElem_set_self, List.drop_set_of_lt (by omega), hHC]
            rfl
    subst hf
    obtain ⟨k0, k1, lx, kx, cs, kc0, kc1, rfl, rfl, q1, q2, q3, q4, i0, i1, l1, d0, d1, hP0, hP1, hap0⟩ := app_parts hap hu
    obtain ⟨wx, zx, hk7, s1, s2, s3, s4, s5, s6, s7, s8⟩ := hP0.six
    subst hk7
    have l0 : 6 ≤ cs.length := by omega
    have w3 : IntKind.i64.wrap ((cnt : Int) + 1) = (cnt : Int) + 1 := i64_ok _ (by omega)
    have m0 : ¬ H.next = H2.next := by omega
    have m1 : ¬ H.next + 1 = H2.next := by omega
    have m2 : ¬ B = H2.next := by omega
    have m3 : ¬ H2.next = B := by omega
    simp -implicitDefEqProofs only [go_sem, Nat.reduceEqDiff, Nat.reduceAdd, Nat.reduceLeDiff, ↓reduceIte, reduceCtorEq, Int.reduceBEq, Int.reduceBNe, Int.reduceLT, Int.reduceLE, Int.reduceGT, Int.reduceGE, Int.reduceNeg, Int.reduceAdd, Int.reduceSub, Nat.reduceMul, Nat.reduceLT, Int.reduceToNat, t1, t2, t5, t6, g0, g1, gB, i0, l0, d0, s1, s2, s3, s4, q1, q2, q3, q4, m0, m1, m2, m3, w3]
    have hsz : szT (.mk 5 n hid s lv [k0, k1]) = 1 + (szT k0 + szT k1) := by simp [szT, szK]
    refine ⟨szT k0, by omega, k0, _, cnt + 1, H2.next, rfl, by simp, rfl, by omega, by omega, ((hE.new _).set (by omega) _).set (by omega) _, if_pos rfl, hap0, hP0, ?_⟩
    rw [hlen, spT_app, List.length_append]
    simp only [List.length_cons, List.length_nil]
    omega
end Go.Proofs.Ytooaiddfokbffaa.E
