/- Texts of the proof, one behind the other. Conditions: none. -/
import Derived.Test.YtooaiddfokbffaaA2
import Derived.Test.YtooaiddfokbffaaProg
import Derived.KernelRfl
/- The code of functions, over abstract states. Conditions: none. -/
set_option maxRecDepth 100000
set_option linter.unusedVariables false
namespace Go.Proofs.Ytooaiddfokbffaa.E
open Go Go.Proofs
def c80 : AFn := ⟨[(.t 4)], (.seq (.ops [(.op (some 2) none (.box (.t 0))), (.op (some 3) none (.box (.t 1))), (.op (some 4) none (.move (.c (.v (.bool false)))))]) (.seq (.seq (.ops [(.op (some 6) none (.fld 0 (.t 2))), (.op (some 7) none (.load false 1 (.t 6))), (.op (some 8) none (.fld 0 (.t 3))), (.op (some 9) none (.load false 1 (.t 8))), (.op (some 10) none (.ibin .neq (.t 7) (.t 9))), (.op (some 11) none (.move (.t 10))), (.op (some 12) (some (11, false)) (.fld 1 (.t 2))), (.op (some 13) (some (11, false)) (.load false 1 (.t 12))), (.op (some 14) (some (11, false)) (.len .slice (.t 13))), (.op (some 15) (some (11, false)) (.fld 1 (.t 3))), (.op (some 16) (some (11, false)) (.load false 1 (.t 15))), (.op (some 17) (some (11, false)) (.len .slice (.t 16))), (.op (some 18) (some (11, false)) (.ibin .neq (.t 14) (.t 17))), (.op (some 19) none (.pick (.t 11) (.c (.v (.bool true))) (.t 18)))]) (.cond (.t 19) (.seq (.ops [(.op (some 4) none (.move (.c (.v (.bool false)))))]) .ret) .skip)) (.seq (.seq (.ops [(.op (some 5) none (.move (.c (.v (.int .i64 0)))))]) (.block 0 (.loop (.seq (.seq (.ops [(.op (some 20) none (.move (.t 5))), (.op (some 21) none (.fld 1 (.t 2))), (.op (some 22) none (.load false 1 (.t 21))), (.op (some 23) none (.len .slice (.t 22))), (.op (some 24) none (.ibin .lss (.t 20) (.t 23)))]) (.cond (.t 24) .skip (.exit 0))) (.seq (.block 1 (.seq (.draw [⟨(.op (some 27) none (.fld 1 (.t 2))), []⟩, ⟨(.op (some 28) none (.load false 1 (.t 27))), []⟩, ⟨(.op (some 29) none (.move (.t 5))), []⟩, ⟨(.op (some 30) none (.idx 2 (.t 28) (.t 29))), []⟩, ⟨(.op (some 31) none (.load true 2 (.t 30))), []⟩, ⟨(.op (some 32) none (.fld 1 (.t 3))), []⟩, ⟨(.op (some 33) none (.load false 1 (.t 32))), []⟩, ⟨(.op (some 34) none (.move (.t 5))), []⟩, ⟨(.op (some 35) none (.idx 2 (.t 33) (.t 34))), []⟩, ⟨(.op (some 36) none (.load true 2 (.t 35))), []⟩, ⟨(.op (some 37) none (.ebin true [.int, .int] (.t 31) (.t 36))), []⟩]) (.cond (.t 37) (.seq (.ops [(.op (some 4) none (.move (.c (.v (.bool false)))))]) .ret) .skip))) (.ops [(.op (some 25) none (.move (.t 5))), (.op (some 26) none (.ibin .add (.t 25) (.c (.v (.int .i64 1))))), (.op (some 5) none (.move (.t 26)))])))))) (.seq (.ops [(.op (some 4) none (.move (.c (.v (.bool true)))))]) .ret))))⟩
theorem cf80 : compFn Try.prog 80 [(6, [(0, []), (1, []), (2, []), (3, []), (4, []), (5, []), (6, []), (7, []), (8, []), (9, []), (10, [])])] = some c80 := by kernel_rfl
def c81 : AFn := ⟨[(.t 6)], (.seq (.ops [(.op (some 4) none (.box (.t 1))), (.op (some 6) none (.move (.c (.v (.bool false)))))]) (.seq (.ops [(.op (some 9) none (.move (.t 0))), (.op (some 10) none (.nilchk (.t 9))), (.op (some 11) none (.fld 0 (.t 10))), (.op (some 12) none (.load false 1 (.t 11))), (.op (some 13) none (.ibin .add (.t 12) (.c (.v (.int .i64 1))))), (.op (some 14) none (.nilchk (.t 9))), (.op (some 15) none (.fld 0 (.t 14))), (.op none none (.store 1 (.t 15) (.t 13)))]) (.seq (.seq (.ops [(.op (some 16) none (.move (.t 0))), (.op (some 17) none (.nilchk (.t 16))), (.op (some 18) none (.fld 0 (.t 17))), (.op (some 19) none (.load false 1 (.t 18))), (.op (some 20) none (.ibin .gtr (.t 19) (.c (.v (.int .i64 20000))))), (.op (some 21) none (.move (.t 20))), (.op (some 22) (some (21, false)) (.move (.t 2))), (.op (some 23) (some (21, false)) (.ibin .gtr (.t 22) (.c (.v (.int .i64 500))))), (.op (some 24) none (.pick (.t 21) (.c (.v (.bool true))) (.t 23)))]) (.cond (.t 24) (.seq (.ops [(.op (some 6) none (.move (.c (.v (.bool false)))))]) .ret) .skip)) (.seq (.seq (.ops [(.op (some 25) none (.fld 5 (.t 4))), (.op (some 26) none (.load false 1 (.t 25))), (.op (some 27) none (.len .slice (.t 26))), (.op (some 28) none (.move (.c (.v (.int .i64 0)))))]) (.block 0 (.loop (.seq (.ops [(.op (some 29) none (.ibin .lss (.t 28) (.t 27)))]) (.seq (.cond (.t 29) .skip (.exit 0)) (.seq (.block 1 (.seq (.ops [(.op (some 30) none (.idx 6 (.t 26) (.t 28))), (.op (some 31) none (.load true 6 (.t 30))), (.op (some 8) none (.alloc [(.v (.int .i64 0)), (.v (.int .i64 0)), (.v (.bool false)), (.v (.string (ByteArray.mk #[]))), (.v (.slice none 0 0)), (.v (.slice none 0 0))])), (.op none none (.store 6 (.t 8) (.t 31)))]) (.seq (.ops [(.op (some 32) none (.move (.t 0))), (.op (some 33) none (.load true 6 (.t 8))), (.op (some 34) none (.move (.t 2))), (.op (some 35) none (.ibin .add (.t 34) (.c (.v (.int .i64 1))))), (.call (some 36) none (.c (.fn (.func 81) [] [])) [(.t 32), (.t 33), (.t 35)]), (.op (some 37) none (.not (.t 36)))]) (.cond (.t 37) (.seq (.ops [(.op (some 6) none (.move (.c (.v (.bool false)))))]) .ret) .skip)))) (.ops [(.op (some 38) none (.ibin .add (.t 28) (.c (.v (.int .i64 1))))), (.op (some 28) none (.move (.t 38)))]))))))) (.seq (.ops [(.op (some 6) none (.move (.c (.v (.bool true)))))]) .ret)))))⟩
theorem cf81 : compFn Try.prog 81 [] = some c81 := by kernel_rfl
def c82 : AFn := ⟨[(.t 6)], (.seq (.ops [(.op (some 3) none (.box (.t 0))), (.op (some 6) none (.move (.c (.v (.bool false)))))]) (.seq (.seq (.ops [(.op (some 9) none (.move (.t 2))), (.op (some 10) none (.load true 6 (.t 3))), (.call (some 11) none (.t 9) [(.t 10)]), (.op (some 12) none (.not (.t 11)))]) (.cond (.t 12) (.seq (.ops [(.op (some 6) none (.move (.c (.v (.bool false)))))]) .ret) .skip)) (.seq (.seq (.ops [(.op (some 13) none (.move (.t 1))), (.op (some 14) none (.load true 6 (.t 3))), (.call (some 15) none (.t 13) [(.t 14)]), (.op (some 16) none (.len .slice (.t 15))), (.op (some 17) none (.move (.c (.v (.int .i64 0)))))]) (.block 0 (.loop (.seq (.ops [(.op (some 18) none (.ibin .lss (.t 17) (.t 16)))]) (.seq (.cond (.t 18) .skip (.exit 0)) (.seq (.block 1 (.seq (.ops [(.op (some 19) none (.idx 6 (.t 15) (.t 17))), (.op (some 20) none (.load true 6 (.t 19))), (.op (some 8) none (.alloc [(.v (.int .i64 0)), (.v (.int .i64 0)), (.v (.bool false)), (.v (.string (ByteArray.mk #[]))), (.v (.slice none 0 0)), (.v (.slice none 0 0))])), (.op none none (.store 6 (.t 8) (.t 20)))]) (.seq (.ops [(.op (some 21) none (.load true 6 (.t 8))), (.op (some 22) none (.move (.t 1))), (.op (some 23) none (.move (.t 2))), (.call (some 24) none (.c (.fn (.func 82) [] [])) [(.t 21), (.t 22), (.t 23)]), (.op (some 25) none (.not (.t 24)))]) (.cond (.t 25) (.seq (.ops [(.op (some 6) none (.move (.c (.v (.bool false)))))]) .ret) .skip)))) (.ops [(.op (some 26) none (.ibin .add (.t 17) (.c (.v (.int .i64 1))))), (.op (some 17) none (.move (.t 26)))]))))))) (.seq (.ops [(.op (some 6) none (.move (.c (.v (.bool true)))))]) .ret))))⟩
theorem cf82 : compFn Try.prog 82 [] = some c82 := by kernel_rfl
def c83 : AFn := ⟨[(.t 2)], (.seq (.ops [(.op (some 1) none (.box (.t 0))), (.op (some 2) none (.move (.c (.v (.slice none 0 0)))))]) (.seq (.ops [(.op (some 3) none (.fld 5 (.t 1))), (.op (some 4) none (.load false 1 (.t 3))), (.op (some 5) none (.fld 5 (.t 1))), (.op (some 6) none (.load false 1 (.t 5))), (.op (some 7) none (.len .slice (.t 6))), (.op (some 8) none (.fld 5 (.t 1))), (.op (some 9) none (.load false 1 (.t 8))), (.op (some 10) none (.len .slice (.t 9))), (.op (some 11) none (.slice 6 (.t 4) none (some (.t 7)) (some (.t 10)))), (.op (some 2) none (.move (.t 11)))]) .ret))⟩
theorem cf83 : compFn Try.prog 83 [] = some c83 := by kernel_rfl
def c84 : AFn := ⟨[(.t 2)], (.seq (.ops [(.op (some 1) none (.box (.t 0))), (.op (some 2) none (.move (.c (.v (.bool false)))))]) (.seq (.seq (.draw [⟨(.op (some 3) none (.fld 0 (.t 1))), []⟩, ⟨(.op (some 4) none (.load false 1 (.t 3))), []⟩, ⟨(.op (some 6) none (.fld 5 (.t 1))), []⟩, ⟨(.op (some 7) none (.load false 1 (.t 6))), []⟩, ⟨(.op (some 8) none (.len .slice (.t 7))), []⟩, ⟨(.call (some 5) none (.c (.fn (.func 128) [] [])) [(.t 4)]), [2, 3, 4]⟩, ⟨(.op (some 9) none (.ibin .neq (.t 5) (.t 8))), []⟩]) (.cond (.t 9) (.seq (.ops [(.op (some 2) none (.move (.c (.v (.bool false)))))]) .ret) .skip)) (.seq (.seq (.ops [(.op (some 10) none (.fld 0 (.t 1))), (.op (some 11) none (.load false 1 (.t 10)))]) (.block 0 (.seq (.seq (.ops [(.op (some 13) none (.ibin .eql (.t 11) (.c (.v (.int .i64 1))))), (.op (some 12) none (.move (.t 13)))]) (.cond (.t 12) .skip (.ops [(.op (some 14) none (.ibin .eql (.t 11) (.c (.v (.int .i64 11))))), (.op (some 12) none (.move (.t 14)))]))) (.cond (.t 12) (.seq (.ops [(.op (some 15) none (.fld 1 (.t 1))), (.op (some 16) none (.load false 1 (.t 15))), (.op (some 17) none (.ibin .geq (.t 16) (.c (.v (.int .i64 0))))), (.op (some 18) none (.move (.t 17))), (.op (some 19) (some (18, true)) (.fld 1 (.t 1))), (.op (some 20) (some (18, true)) (.load false 1 (.t 19))), (.op (some 21) (some (18, true)) (.ibin .leq (.t 20) (.c (.v (.int .i64 1073741824))))), (.op (some 22) none (.pick (.t 18) (.t 21) (.c (.v (.bool false))))), (.op (some 2) none (.move (.t 22)))]) .ret) (.seq (.ops [(.op (some 24) none (.ibin .eql (.t 11) (.c (.v (.int .i64 7))))), (.op (some 23) none (.move (.t 24)))]) (.cond (.t 23) (.seq (.ops [(.op (some 25) none (.fld 5 (.t 1))), (.op (some 26) none (.load false 1 (.t 25))), (.op (some 27) none (.idx 6 (.t 26) (.c (.v (.int .i64 0))))), (.op (some 28) none (.fld 0 (.t 27))), (.op (some 29) none (.load false 1 (.t 28))), (.op (some 30) none (.ibin .eql (.t 29) (.c (.v (.int .i64 6))))), (.op (some 2) none (.move (.t 30)))]) .ret) (.seq (.ops [(.op (some 32) none (.ibin .eql (.t 11) (.c (.v (.int .i64 2))))), (.op (some 31) none (.move (.t 32)))]) (.cond (.t 31) (.seq (.ops [(.op (some 33) none (.fld 4 (.t 1))), (.op (some 34) none (.load false 1 (.t 33))), (.op (some 35) none (.len .slice (.t 34))), (.op (some 36) none (.ibin .eql (.t 35) (.c (.v (.int .i64 1))))), (.op (some 37) none (.move (.t 36))), (.op (some 38) (some (37, true)) (.fld 4 (.t 1))), (.op (some 39) (some (37, true)) (.load false 1 (.t 38))), (.call (some 40) (some (37, true)) (.c (.fn (.func 129) [] [])) [(.t 39)]), (.op (some 41) none (.pick (.t 37) (.t 40) (.c (.v (.bool false))))), (.op (some 2) none (.move (.t 41)))]) .ret) (.seq (.ops [(.op (some 43) none (.ibin .eql (.t 11) (.c (.v (.int .i64 10))))), (.op (some 42) none (.move (.t 43)))]) (.cond (.t 42) (.seq (.ops [(.op (some 44) none (.fld 3 (.t 1))), (.op (some 45) none (.load false 1 (.t 44))), (.op (some 46) none (.sbin .neq (.t 45) (.c (.v (.string (ByteArray.mk #[])))))), (.op (some 47) none (.move (.t 46))), (.op (some 48) (some (47, true)) (.fld 3 (.t 1))), (.op (some 49) (some (47, true)) (.load false 1 (.t 48))), (.op (some 50) (some (47, true)) (.len .str (.t 49))), (.op (some 51) (some (47, true)) (.ibin .leq (.t 50) (.c (.v (.int .i64 60))))), (.op (some 52) none (.pick (.t 47) (.t 51) (.c (.v (.bool false))))), (.op (some 53) none (.move (.t 52))), (.op (some 54) (some (53, true)) (.fld 4 (.t 1))), (.op (some 55) (some (53, true)) (.load false 1 (.t 54))), (.call (some 56) (some (53, true)) (.c (.fn (.func 129) [] [])) [(.t 55)]), (.op (some 57) none (.pick (.t 53) (.t 56) (.c (.v (.bool false))))), (.op (some 2) none (.move (.t 57)))]) .ret) .skip)))))))))) (.seq (.ops [(.op (some 2) none (.move (.c (.v (.bool true)))))]) .ret))))⟩
theorem cf84 : compFn Try.prog 84 [(1, [(0, []), (1, []), (3, []), (4, []), (5, []), (2, [2, 3, 4]), (6, [])])] = some c84 := by kernel_rfl
def c85 : AFn := ⟨[(.t 6), (.t 7)], (.seq (.ops [(.op (some 3) none (.box (.t 0))), (.op (some 6) none (.move (.c (.v (.int .i64 0))))), (.op (some 7) none (.move (.c (.v (.int .i64 0)))))]) (.seq (.ops [(.op (some 8) none (.move (.c (.v (.int .i64 1)))))]) (.seq (.ops [(.op (some 9) none (.move (.c (.v (.int .i64 0)))))]) (.seq (.seq (.ops [(.op (some 13) none (.move (.t 1))), (.op (some 14) none (.ibin .lss (.t 13) (.c (.v (.int .i64 1))))), (.op (some 15) none (.move (.t 14))), (.op (some 16) (some (15, false)) (.move (.t 2))), (.op (some 17) (some (15, false)) (.ibin .lss (.t 16) (.c (.v (.int .i64 1))))), (.op (some 18) none (.pick (.t 15) (.c (.v (.bool true))) (.t 17)))]) (.cond (.t 18) (.seq (.ops [(.op (some 6) none (.move (.c (.v (.int .i64 1073741824))))), (.op (some 7) none (.move (.c (.v (.int .i64 1073741824)))))]) .ret) .skip)) (.seq (.seq (.ops [(.op (some 10) none (.move (.c (.v (.int .i64 0)))))]) (.block 0 (.loop (.seq (.seq (.ops [(.op (some 19) none (.move (.t 10))), (.op (some 20) none (.fld 5 (.t 3))), (.op (some 21) none (.load false 1 (.t 20))), (.op (some 22) none (.len .slice (.t 21))), (.op (some 23) none (.ibin .lss (.t 19) (.t 22)))]) (.cond (.t 23) .skip (.exit 0))) (.seq (.block 1 (.seq (.ops [(.op (some 27) none (.fld 5 (.t 3))), (.op (some 28) none (.load false 1 (.t 27))), (.op (some 29) none (.move (.t 10))), (.op (some 30) none (.idx 6 (.t 28) (.t 29))), (.op (some 31) none (.load true 6 (.t 30))), (.op (some 32) none (.move (.t 1))), (.op (some 33) none (.move (.t 8))), (.op (some 34) none (.ibin .sub (.t 32) (.t 33))), (.op (some 35) none (.move (.t 2))), (.op (some 36) none (.ibin .sub (.t 35) (.c (.v (.int .i64 1))))), (.call (some 37) none (.c (.fn (.func 85) [] [])) [(.t 31), (.t 34), (.t 36)]), (.op (some 26) none (.move (.t 37))), (.op (some 38) none (.ext (.t 26) 0)), (.op (some 39) none (.ext (.t 26) 1)), (.op (some 11) none (.move (.t 38))), (.op (some 12) none (.move (.t 39)))]) (.seq (.ops [(.op (some 40) none (.move (.t 8))), (.op (some 41) none (.move (.t 11))), (.op (some 42) none (.ibin .add (.t 40) (.t 41))), (.op (some 8) none (.move (.t 42)))]) (.seq (.seq (.ops [(.op (some 43) none (.move (.t 12))), (.op (some 44) none (.move (.t 9))), (.op (some 45) none (.ibin .gtr (.t 43) (.t 44)))]) (.cond (.t 45) (.ops [(.op (some 46) none (.move (.t 12))), (.op (some 9) none (.move (.t 46)))]) .skip)) (.seq (.ops [(.op (some 47) none (.move (.t 8))), (.op (some 48) none (.move (.t 1))), (.op (some 49) none (.ibin .gtr (.t 47) (.t 48))), (.op (some 50) none (.move (.t 49))), (.op (some 51) (some (50, false)) (.move (.t 9))), (.op (some 52) (some (50, false)) (.move (.t 2))), (.op (some 53) (some (50, false)) (.ibin .geq (.t 51) (.t 52))), (.op (some 54) none (.pick (.t 50) (.c (.v (.bool true))) (.t 53)))]) (.cond (.t 54) (.seq (.ops [(.op (some 6) none (.move (.c (.v (.int .i64 1073741824))))), (.op (some 7) none (.move (.c (.v (.int .i64 1073741824)))))]) .ret) .skip)))))) (.ops [(.op (some 24) none (.move (.t 10))), (.op (some 25) none (.ibin .add (.t 24) (.c (.v (.int .i64 1))))), (.op (some 10) none (.move (.t 25)))])))))) (.seq (.ops [(.op (some 55) none (.move (.t 8))), (.op (some 56) none (.move (.t 9))), (.op (some 57) none (.ibin .add (.t 56) (.c (.v (.int .i64 1))))), (.op (some 6) none (.move (.t 55))), (.op (some 7) none (.move (.t 57)))]) .ret))))))⟩
theorem cf85 : compFn Try.prog 85 [] = some c85 := by kernel_rfl
def c86 : AFn := ⟨[(.t 4)], (.seq (.ops [(.op (some 2) none (.box (.t 0))), (.op (some 4) none (.move (.c (.v (.int .i64 0)))))]) (.seq (.ops [(.op (some 6) none (.move (.t 1))), (.op (some 7) none (.ibin .add (.t 6) (.c (.v (.int .i64 1))))), (.op (some 8) none (.build [(.v (.int .i64 0))] [(0, (1, (.t 7)))])), (.op (some 9) none (.box (.t 8))), (.op (some 5) none (.move (.t 9)))]) (.seq (.ops [(.op (some 10) none (.move (.t 5))), (.op (some 11) none (.load true 6 (.t 2))), (.call (some 12) none (.c (.fn (.func 130) [] [])) [(.t 10), (.t 11)])]) (.seq (.ops [(.op (some 13) none (.move (.t 1))), (.op (some 14) none (.ibin .add (.t 13) (.c (.v (.int .i64 1))))), (.op (some 15) none (.move (.t 5))), (.op (some 16) none (.nilchk (.t 15))), (.op (some 17) none (.fld 0 (.t 16))), (.op (some 18) none (.load false 1 (.t 17))), (.op (some 19) none (.mm true (.c (.v (.int .i64 0))) (.t 18))), (.op (some 20) none (.ibin .sub (.t 14) (.t 19))), (.op (some 4) none (.move (.t 20)))]) .ret))))⟩
theorem cf86 : compFn Try.prog 86 [] = some c86 := by kernel_rfl
def c87 : AFn := ⟨[(.t 2)], (.seq (.ops [(.op (some 1) none (.box (.t 0))), (.op (some 2) none (.move (.c (.v (.bool false)))))]) (.seq (.ops [(.op (some 8) none (.fld 0 (.t 1))), (.op (some 9) none (.load false 1 (.t 8))), (.call (some 10) none (.c (.fn (.func 131) [] [])) [(.t 9)]), (.op (some 3) none (.move (.t 10)))]) (.seq (.seq (.ops [(.op (some 11) none (.move (.t 3))), (.op (some 12) none (.ibin .lss (.t 11) (.c (.v (.int .i64 0))))), (.op (some 13) none (.move (.t 12))), (.op (some 14) (some (13, false)) (.move (.t 3))), (.op (some 15) (some (13, false)) (.fld 5 (.t 1))), (.op (some 16) (some (13, false)) (.load false 1 (.t 15))), (.op (some 17) (some (13, false)) (.len .slice (.t 16))), (.op (some 18) (some (13, false)) (.ibin .neq (.t 14) (.t 17))), (.op (some 19) none (.pick (.t 13) (.c (.v (.bool true))) (.t 18)))]) (.cond (.t 19) (.seq (.ops [(.op (some 2) none (.move (.c (.v (.bool false)))))]) .ret) .skip)) (.seq (.seq (.ops [(.op (some 20) none (.fld 0 (.t 1))), (.op (some 21) none (.load false 1 (.t 20)))]) (.block 0 (.seq (.seq (.ops [(.op (some 23) none (.ibin .eql (.t 21) (.c (.v (.int .i64 1))))), (.op (some 22) none (.move (.t 23)))]) (.cond (.t 22) .skip (.ops [(.op (some 24) none (.ibin .eql (.t 21) (.c (.v (.int .i64 11))))), (.op (some 22) none (.move (.t 24)))]))) (.cond (.t 22) (.seq (.ops [(.op (some 25) none (.fld 1 (.t 1))), (.op (some 26) none (.load false 1 (.t 25))), (.op (some 27) none (.ibin .lss (.t 26) (.c (.v (.int .i64 0))))), (.op (some 28) none (.move (.t 27))), (.op (some 29) (some (28, false)) (.fld 1 (.t 1))), (.op (some 30) (some (28, false)) (.load false 1 (.t 29))), (.op (some 31) (some (28, false)) (.ibin .gtr (.t 30) (.c (.v (.int .i64 1073741824))))), (.op (some 32) none (.pick (.t 28) (.c (.v (.bool true))) (.t 31)))]) (.cond (.t 32) (.seq (.ops [(.op (some 2) none (.move (.c (.v (.bool false)))))]) .ret) .skip)) (.seq (.ops [(.op (some 34) none (.ibin .eql (.t 21) (.c (.v (.int .i64 2))))), (.op (some 33) none (.move (.t 34)))]) (.cond (.t 33) (.seq (.ops [(.op (some 35) none (.fld 4 (.t 1))), (.op (some 36) none (.load false 1 (.t 35))), (.op (some 37) none (.len .slice (.t 36))), (.op (some 38) none (.ibin .neq (.t 37) (.c (.v (.int .i64 1)))))]) (.cond (.t 38) (.seq (.ops [(.op (some 2) none (.move (.c (.v (.bool false)))))]) .ret) .skip)) (.seq (.ops [(.op (some 40) none (.ibin .eql (.t 21) (.c (.v (.int .i64 7))))), (.op (some 39) none (.move (.t 40)))]) (.cond (.t 39) (.seq (.ops [(.op (some 41) none (.fld 5 (.t 1))), (.op (some 42) none (.load false 1 (.t 41))), (.op (some 43) none (.idx 6 (.t 42) (.c (.v (.int .i64 0))))), (.op (some 44) none (.fld 0 (.t 43))), (.op (some 45) none (.load false 1 (.t 44))), (.op (some 46) none (.ibin .neq (.t 45) (.c (.v (.int .i64 6)))))]) (.cond (.t 46) (.seq (.ops [(.op (some 2) none (.move (.c (.v (.bool false)))))]) .ret) .skip)) (.seq (.ops [(.op (some 48) none (.ibin .eql (.t 21) (.c (.v (.int .i64 10))))), (.op (some 47) none (.move (.t 48)))]) (.cond (.t 47) (.seq (.ops [(.op (some 49) none (.fld 3 (.t 1))), (.op (some 50) none (.load false 1 (.t 49))), (.op (some 51) none (.sbin .eql (.t 50) (.c (.v (.string (ByteArray.mk #[])))))), (.op (some 52) none (.move (.t 51))), (.op (some 53) (some (52, false)) (.fld 3 (.t 1))), (.op (some 54) (some (52, false)) (.load false 1 (.t 53))), (.op (some 55) (some (52, false)) (.len .str (.t 54))), (.op (some 56) (some (52, false)) (.ibin .gtr (.t 55) (.c (.v (.int .i64 60))))), (.op (some 57) none (.pick (.t 52) (.c (.v (.bool true))) (.t 56)))]) (.cond (.t 57) (.seq (.ops [(.op (some 2) none (.move (.c (.v (.bool false)))))]) .ret) .skip)) .skip)))))))))) (.seq (.seq (.ops [(.op (some 58) none (.fld 0 (.t 1))), (.op (some 59) none (.load false 1 (.t 58))), (.op (some 60) none (.ibin .eql (.t 59) (.c (.v (.int .i64 2))))), (.op (some 61) none (.move (.t 60))), (.op (some 62) (some (61, false)) (.fld 0 (.t 1))), (.op (some 63) (some (61, false)) (.load false 1 (.t 62))), (.op (some 64) (some (61, false)) (.ibin .eql (.t 63) (.c (.v (.int .i64 10))))), (.op (some 65) none (.pick (.t 61) (.c (.v (.bool true))) (.t 64)))]) (.cond (.t 65) (.seq (.ops [(.op (some 4) none (.move (.c (.v (.int .i64 0)))))]) (.block 1 (.loop (.seq (.seq (.ops [(.op (some 66) none (.move (.t 4))), (.op (some 67) none (.fld 4 (.t 1))), (.op (some 68) none (.load false 1 (.t 67))), (.op (some 69) none (.len .slice (.t 68))), (.op (some 70) none (.ibin .lss (.t 66) (.t 69)))]) (.cond (.t 70) .skip (.exit 1))) (.seq (.block 2 (.seq (.ops [(.op (some 73) none (.fld 4 (.t 1))), (.op (some 74) none (.load false 1 (.t 73))), (.op (some 75) none (.move (.t 4))), (.op (some 76) none (.idx 2 (.t 74) (.t 75))), (.op (some 77) none (.load true 2 (.t 76))), (.call (some 78) none (.c (.fn (.func 132) [] [])) [(.t 77)]), (.op (some 5) none (.move (.t 78)))]) (.seq (.ops [(.op (some 79) none (.move (.t 5))), (.op (some 80) none (.not (.t 79)))]) (.cond (.t 80) (.seq (.ops [(.op (some 2) none (.move (.c (.v (.bool false)))))]) .ret) .skip)))) (.ops [(.op (some 71) none (.move (.t 4))), (.op (some 72) none (.ibin .add (.t 71) (.c (.v (.int .i64 1))))), (.op (some 4) none (.move (.t 72)))])))))) .skip)) (.seq (.seq (.ops [(.op (some 6) none (.move (.c (.v (.int .i64 0)))))]) (.block 3 (.loop (.seq (.seq (.ops [(.op (some 81) none (.move (.t 6))), (.op (some 82) none (.move (.t 3))), (.op (some 83) none (.ibin .lss (.t 81) (.t 82)))]) (.cond (.t 83) .skip (.exit 3))) (.seq (.block 4 (.seq (.ops [(.op (some 86) none (.fld 5 (.t 1))), (.op (some 87) none (.load false 1 (.t 86))), (.op (some 88) none (.move (.t 6))), (.op (some 89) none (.idx 6 (.t 87) (.t 88))), (.op (some 90) none (.load true 6 (.t 89))), (.call (some 91) none (.c (.fn (.func 87) [] [])) [(.t 90)]), (.op (some 7) none (.move (.t 91)))]) (.seq (.ops [(.op (some 92) none (.move (.t 7))), (.op (some 93) none (.not (.t 92)))]) (.cond (.t 93) (.seq (.ops [(.op (some 2) none (.move (.c (.v (.bool false)))))]) .ret) .skip)))) (.ops [(.op (some 84) none (.move (.t 6))), (.op (some 85) none (.ibin .add (.t 84) (.c (.v (.int .i64 1))))), (.op (some 6) none (.move (.t 85)))])))))) (.seq (.ops [(.op (some 2) none (.move (.c (.v (.bool true)))))]) .ret)))))))⟩
theorem cf87 : compFn Try.prog 87 [] = some c87 := by kernel_rfl
def c98 : AFn := ⟨[(.c 8 6 true)], (.seq (.ops [(.op (some 4) none (.box (.t 0))), (.op (some 6) none (.box (.t 2))), (.op (some 8) none (.alloc [(.v (.int .i64 0)), (.v (.int .i64 0)), (.v (.bool false)), (.v (.string (ByteArray.mk #[]))), (.v (.slice none 0 0)), (.v (.slice none 0 0))]))]) (.seq (.ops [(.op (some 9) none (.load true 6 (.t 4))), (.op (some 10) none (.move (.t 3))), (.op (some 11) none (.move (.t 1))), (.op (some 12) none (.load true 6 (.t 6))), (.op (some 13) none (.move (.t 3))), (.op (some 14) none (.build [(.v (.int .i64 0)), (.v (.int .i64 0)), (.v (.int .i64 0)), (.v (.bool false)), (.v (.string (ByteArray.mk #[]))), (.v (.slice none 0 0)), (.v (.slice none 0 0)), (.v (.pointer none))] [(0, (1, (.t 11))), (1, (6, (.t 12))), (7, (1, (.t 13)))])), (.op (some 15) none (.func (.func 143) [(.t 14)] [])), (.call (some 16) none (.c (.fn (.func 123) [] [])) [(.t 9), (.c (.v (.int .i64 0))), (.t 10), (.t 15)]), (.op none none (.store 6 (.t 8) (.t 16)))]) .ret))⟩
theorem cf98 : compFn Try.prog 98 [] = some c98 := by kernel_rfl
def c123 : AFn := ⟨[(.c 8 6 true)], (.seq (.ops [(.op (some 4) none (.box (.t 0))), (.op (some 8) none (.alloc [(.v (.int .i64 0)), (.v (.int .i64 0)), (.v (.bool false)), (.v (.string (ByteArray.mk #[]))), (.v (.slice none 0 0)), (.v (.slice none 0 0))]))]) (.seq (.ops [(.op (some 14) none (.move (.t 2))), (.op (some 15) none (.nilchk (.t 14))), (.op (some 16) none (.load false 1 (.t 15))), (.op (some 17) none (.ibin .sub (.t 16) (.c (.v (.int .i64 1))))), (.op (some 18) none (.nilchk (.t 14))), (.op none none (.store 1 (.t 18) (.t 17)))]) (.seq (.seq (.ops [(.op (some 19) none (.move (.t 2))), (.op (some 20) none (.nilchk (.t 19))), (.op (some 21) none (.load false 1 (.t 20))), (.op (some 22) none (.ibin .lss (.t 21) (.c (.v (.int .i64 0)))))]) (.cond (.t 22) (.seq (.ops [(.op (some 23) none (.build [(.v (.int .i64 0)), (.v (.int .i64 0)), (.v (.bool false)), (.v (.string (ByteArray.mk #[]))), (.v (.slice none 0 0)), (.v (.slice none 0 0))] [])), (.op none none (.store 6 (.t 8) (.t 23)))]) .ret) .skip)) (.seq (.seq (.ops [(.op (some 25) none (.move (.t 3))), (.op (some 26) none (.load true 6 (.t 4))), (.op (some 27) none (.move (.t 1))), (.call (some 28) none (.t 25) [(.t 26), (.t 27)]), (.op (some 24) none (.move (.t 28))), (.op (some 29) none (.ext (.t 24) 0)), (.op (some 30) none (.ext (.t 24) 1)), (.op (some 9) none (.alloc [(.v (.int .i64 0)), (.v (.int .i64 0)), (.v (.bool false)), (.v (.string (ByteArray.mk #[]))), (.v (.slice none 0 0)), (.v (.slice none 0 0))])), (.op none none (.store 6 (.t 9) (.t 29))), (.op (some 10) none (.move (.t 30)))]) (.seq (.ops [(.op (some 31) none (.move (.t 10)))]) (.cond (.t 31) (.seq (.ops [(.op (some 32) none (.load true 6 (.t 9))), (.op none none (.store 6 (.t 8) (.t 32)))]) .ret) .skip))) (.seq (.ops [(.op (some 33) none (.load true 6 (.t 4))), (.call (some 34) none (.c (.fn (.func 171) [] [])) [(.t 33)]), (.op (some 11) none (.alloc [(.v (.int .i64 0)), (.v (.int .i64 0)), (.v (.bool false)), (.v (.string (ByteArray.mk #[]))), (.v (.slice none 0 0)), (.v (.slice none 0 0))])), (.op none none (.store 6 (.t 11) (.t 34)))]) (.seq (.seq (.ops [(.op (some 35) none (.fld 5 (.t 4))), (.op (some 36) none (.load false 1 (.t 35))), (.op (some 37) none (.len .slice (.t 36))), (.op (some 38) none (.ibin .gtr (.t 37) (.c (.v (.int .i64 0)))))]) (.cond (.t 38) (.ops [(.op (some 39) none (.fld 5 (.t 4))), (.op (some 40) none (.load false 1 (.t 39))), (.op (some 41) none (.len .slice (.t 40))), (.op (some 42) none (.mks [(.v (.int .i64 0)), (.v (.int .i64 0)), (.v (.bool false)), (.v (.string (ByteArray.mk #[]))), (.v (.slice none 0 0)), (.v (.slice none 0 0))] 88 (.t 41) (.t 41))), (.op (some 43) none (.fld 5 (.t 11))), (.op none none (.store 1 (.t 43) (.t 42)))]) .skip)) (.seq (.seq (.ops [(.op (some 44) none (.fld 5 (.t 4))), (.op (some 45) none (.load false 1 (.t 44))), (.op (some 46) none (.len .slice (.t 45))), (.op (some 47) none (.move (.c (.v (.int .i64 0)))))]) (.block 0 (.loop (.seq (.ops [(.op (some 48) none (.ibin .lss (.t 47) (.t 46)))]) (.seq (.cond (.t 48) .skip (.exit 0)) (.seq (.block 1 (.seq (.ops [(.op (some 49) none (.move (.t 47))), (.op (some 50) none (.idx 6 (.t 45) (.t 47))), (.op (some 51) none (.load true 6 (.t 50))), (.op (some 13) none (.alloc [(.v (.int .i64 0)), (.v (.int .i64 0)), (.v (.bool false)), (.v (.string (ByteArray.mk #[]))), (.v (.slice none 0 0)), (.v (.slice none 0 0))])), (.op (some 12) none (.move (.t 49))), (.op none none (.store 6 (.t 13) (.t 51)))]) (.draw [⟨(.op (some 52) none (.fld 5 (.t 11))), []⟩, ⟨(.op (some 53) none (.load false 1 (.t 52))), []⟩, ⟨(.op (some 54) none (.move (.t 12))), []⟩, ⟨(.op (some 55) none (.load true 6 (.t 13))), []⟩, ⟨(.op (some 56) none (.fld 0 (.t 4))), []⟩, ⟨(.op (some 57) none (.load false 1 (.t 56))), []⟩, ⟨(.op (some 58) none (.move (.t 12))), []⟩, ⟨(.op (some 59) none (.move (.t 1))), []⟩, ⟨(.op (some 61) none (.move (.t 2))), []⟩, ⟨(.op (some 62) none (.move (.t 3))), []⟩, ⟨(.call (some 60) none (.c (.fn (.func 172) [] [])) [(.t 57), (.t 58), (.t 59)]), [0, 1, 2, 3, 8, 9]⟩, ⟨(.call (some 63) none (.c (.fn (.func 123) [] [])) [(.t 55), (.t 60), (.t 61), (.t 62)]), [0, 1, 2]⟩, ⟨(.op (some 64) none (.idx 6 (.t 53) (.t 54))), []⟩, ⟨(.op none none (.store 6 (.t 64) (.t 63))), []⟩]))) (.ops [(.op (some 65) none (.ibin .add (.t 47) (.c (.v (.int .i64 1))))), (.op (some 47) none (.move (.t 65)))]))))))) (.seq (.ops [(.op (some 66) none (.load true 6 (.t 11))), (.op none none (.store 6 (.t 8) (.t 66)))]) .ret))))))))⟩
theorem cf123 : compFn Try.prog 123 [(13, [(0, []), (1, []), (2, []), (3, []), (4, []), (5, []), (6, []), (7, []), (9, []), (10, []), (8, [0, 1, 2, 3, 8, 9]), (11, [0, 1, 2]), (12, []), (13, [])])] = some c123 := by kernel_rfl
def c124 : AFn := ⟨[(.t 0)], (.seq (.ops [(.op (some 0) none (.move (.c (.v (.pointer none)))))]) (.seq (.ops [(.op (some 1) none (.alloc [(.v (.int .i64 0))])), (.op none none (.store 1 (.t 1) (.c (.v (.int .i64 1099511627776)))))]) (.seq (.ops [(.op (some 0) none (.move (.t 1)))]) .ret)))⟩
theorem cf124 : compFn Try.prog 124 [] = some c124 := by kernel_rfl
def c125 : AFn := ⟨[(.c 4 6 true), (.t 5)], (.seq (.ops [(.op (some 2) none (.box (.t 0))), (.op (some 4) none (.alloc [(.v (.int .i64 0)), (.v (.int .i64 0)), (.v (.bool false)), (.v (.string (ByteArray.mk #[]))), (.v (.slice none 0 0)), (.v (.slice none 0 0))])), (.op (some 5) none (.move (.c (.v (.bool false)))))]) (.seq (.ops [(.op (some 6) none (.build [(.v (.int .i64 0)), (.v (.int .i64 0)), (.v (.bool false)), (.v (.string (ByteArray.mk #[]))), (.v (.slice none 0 0)), (.v (.slice none 0 0))] [])), (.op none none (.store 6 (.t 4) (.t 6))), (.op (some 5) none (.move (.c (.v (.bool false)))))]) .ret))⟩
theorem cf125 : compFn Try.prog 125 [] = some c125 := by kernel_rfl
def c126 : AFn := ⟨[(.c 6 6 true), (.t 7)], (.seq (.ops [(.op (some 3) none (.box (.t 0))), (.op (some 4) none (.box (.t 1))), (.op (some 6) none (.alloc [(.v (.int .i64 0)), (.v (.int .i64 0)), (.v (.bool false)), (.v (.string (ByteArray.mk #[]))), (.v (.slice none 0 0)), (.v (.slice none 0 0))])), (.op (some 7) none (.move (.c (.v (.bool false)))))]) (.seq (.seq (.ops [(.op (some 8) none (.fld 0 (.t 4))), (.op (some 9) none (.load false 1 (.t 8))), (.op (some 10) none (.ibin .eql (.t 9) (.c (.v (.int .i64 1))))), (.op (some 11) none (.move (.t 10))), (.op (some 12) (some (11, true)) (.fld 1 (.t 4))), (.op (some 13) (some (11, true)) (.load false 1 (.t 12))), (.op (some 14) (some (11, true)) (.fld 0 (.t 3))), (.op (some 15) (some (11, true)) (.load false 1 (.t 14))), (.op (some 16) (some (11, true)) (.move (.t 2))), (.op (some 17) (some (11, true)) (.ibin .add (.t 15) (.t 16))), (.op (some 18) (some (11, true)) (.ibin .geq (.t 13) (.t 17))), (.op (some 19) none (.pick (.t 11) (.t 18) (.c (.v (.bool false)))))]) (.cond (.t 19) (.seq (.ops [(.op (some 20) none (.fld 1 (.t 4))), (.op (some 21) none (.load false 1 (.t 20))), (.op (some 22) none (.fld 1 (.t 3))), (.op (some 23) none (.load false 1 (.t 22))), (.op (some 24) none (.ibin .add (.t 21) (.t 23))), (.call (some 25) none (.c (.fn (.func 161) [] [])) [(.t 24)]), (.op none none (.store 6 (.t 6) (.t 25))), (.op (some 7) none (.move (.c (.v (.bool true)))))]) .ret) .skip)) (.seq (.ops [(.op (some 26) none (.build [(.v (.int .i64 0)), (.v (.int .i64 0)), (.v (.bool false)), (.v (.string (ByteArray.mk #[]))), (.v (.slice none 0 0)), (.v (.slice none 0 0))] [])), (.op none none (.store 6 (.t 6) (.t 26))), (.op (some 7) none (.move (.c (.v (.bool false)))))]) .ret)))⟩
theorem cf126 : compFn Try.prog 126 [] = some c126 := by kernel_rfl
def c127 : AFn := ⟨[(.t 2)], (.seq (.ops [(.op (some 2) none (.move (.c (.v (.bool false)))))]) (.seq (.ops [(.op (some 3) none (.move (.t 0))), (.op (some 4) none (.ibin .eql (.t 3) (.c (.v (.int .i64 3))))), (.op (some 5) none (.move (.t 4))), (.op (some 6) (some (5, false)) (.move (.t 0))), (.op (some 7) (some (5, false)) (.ibin .eql (.t 6) (.c (.v (.int .i64 4))))), (.op (some 8) none (.pick (.t 5) (.c (.v (.bool true))) (.t 7))), (.op (some 9) none (.move (.t 8))), (.op (some 10) (some (9, false)) (.move (.t 0))), (.op (some 11) (some (9, false)) (.ibin .eql (.t 10) (.c (.v (.int .i64 6))))), (.op (some 12) none (.pick (.t 9) (.c (.v (.bool true))) (.t 11))), (.op (some 2) none (.move (.t 12)))]) .ret))⟩
theorem cf127 : compFn Try.prog 127 [] = some c127 := by kernel_rfl
def c128 : AFn := ⟨[(.t 2)], (.seq (.ops [(.op (some 2) none (.move (.c (.v (.int .i64 0)))))]) (.seq (.seq (.ops [(.op (some 3) none (.move (.t 0)))]) (.block 0 (.seq (.block 6 (.block 5 (.seq (.block 4 (.seq (.block 3 (.seq (.block 2 (.block 1 (.seq (.seq (.seq (.seq (.ops [(.op (some 5) none (.ibin .eql (.t 3) (.c (.v (.int .i64 1))))), (.op (some 4) none (.move (.t 5)))]) (.cond (.t 4) .skip (.ops [(.op (some 6) none (.ibin .eql (.t 3) (.c (.v (.int .i64 2))))), (.op (some 4) none (.move (.t 6)))]))) (.cond (.t 4) (.exit 1) .skip)) (.seq (.seq (.seq (.ops [(.op (some 8) none (.ibin .eql (.t 3) (.c (.v (.int .i64 10))))), (.op (some 7) none (.move (.t 8)))]) (.cond (.t 7) .skip (.ops [(.op (some 9) none (.ibin .eql (.t 3) (.c (.v (.int .i64 11))))), (.op (some 7) none (.move (.t 9)))]))) (.cond (.t 7) (.exit 2) .skip)) (.seq (.seq (.seq (.ops [(.op (some 11) none (.ibin .eql (.t 3) (.c (.v (.int .i64 8))))), (.op (some 10) none (.move (.t 11)))]) (.cond (.t 10) .skip (.ops [(.op (some 12) none (.ibin .eql (.t 3) (.c (.v (.int .i64 9))))), (.op (some 10) none (.move (.t 12)))]))) (.cond (.t 10) (.exit 3) .skip)) (.seq (.seq (.ops [(.op (some 14) none (.ibin .eql (.t 3) (.c (.v (.int .i64 7))))), (.op (some 13) none (.move (.t 14)))]) (.cond (.t 13) (.exit 4) .skip)) (.seq (.seq (.seq (.ops [(.op (some 16) none (.ibin .eql (.t 3) (.c (.v (.int .i64 3))))), (.op (some 15) none (.move (.t 16)))]) (.cond (.t 15) .skip (.ops [(.op (some 17) none (.ibin .eql (.t 3) (.c (.v (.int .i64 4))))), (.op (some 15) none (.move (.t 17)))]))) (.cond (.t 15) (.exit 5) .skip)) (.seq (.seq (.ops [(.op (some 19) none (.ibin .eql (.t 3) (.c (.v (.int .i64 5))))), (.op (some 18) none (.move (.t 19)))]) (.cond (.t 18) .skip (.ops [(.op (some 20) none (.ibin .eql (.t 3) (.c (.v (.int .i64 6))))), (.op (some 18) none (.move (.t 20)))]))) (.cond (.t 18) (.exit 6) .skip))))))) (.exit 0)))) (.seq (.seq (.ops [(.op (some 2) none (.move (.c (.v (.int .i64 0)))))]) .ret) (.exit 0)))) (.seq (.seq (.ops [(.op (some 2) none (.move (.c (.v (.int .i64 1)))))]) .ret) (.exit 0)))) (.seq (.seq (.ops [(.op (some 2) none (.move (.c (.v (.int .i64 3)))))]) .ret) (.exit 0))))) (.seq (.seq (.ops [(.op (some 2) none (.move (.c (.v (.int .i64 2)))))]) .ret) (.exit 0))))) (.seq (.ops [(.op (some 2) none (.move (.c (.v (.int .i64 (-1))))))]) .ret)))⟩
theorem cf128 : compFn Try.prog 128 [] = some c128 := by kernel_rfl
def c129 : AFn := ⟨[(.t 2)], (.seq (.ops [(.op (some 2) none (.move (.c (.v (.bool false)))))]) (.seq (.seq (.ops [(.op (some 5) none (.move (.t 0))), (.op (some 6) none (.len .slice (.t 5))), (.op (some 7) none (.move (.c (.v (.int .i64 0)))))]) (.block 0 (.loop (.seq (.ops [(.op (some 8) none (.ibin .lss (.t 7) (.t 6)))]) (.seq (.cond (.t 8) .skip (.exit 0)) (.seq (.block 1 (.seq (.ops [(.op (some 9) none (.idx 2 (.t 5) (.t 7))), (.op (some 10) none (.load true 2 (.t 9))), (.op (some 4) none (.alloc [(.v (.int .i64 0)), (.v (.slice none 0 0))])), (.op none none (.store 2 (.t 4) (.t 10)))]) (.seq (.ops [(.op (some 11) none (.load true 2 (.t 4))), (.call (some 12) none (.c (.fn (.func 173) [] [])) [(.t 11)]), (.op (some 13) none (.not (.t 12)))]) (.cond (.t 13) (.seq (.ops [(.op (some 2) none (.move (.c (.v (.bool false)))))]) .ret) .skip)))) (.ops [(.op (some 14) none (.ibin .add (.t 7) (.c (.v (.int .i64 1))))), (.op (some 7) none (.move (.t 14)))]))))))) (.seq (.ops [(.op (some 2) none (.move (.c (.v (.bool true)))))]) .ret)))⟩
theorem cf129 : compFn Try.prog 129 [] = some c129 := by kernel_rfl
def c130 : AFn := ⟨[(.t 4)], (.seq (.ops [(.op (some 3) none (.box (.t 1))), (.op (some 4) none (.move (.c (.v (.bool false)))))]) (.seq (.ops [(.op (some 7) none (.move (.t 0))), (.op (some 8) none (.nilchk (.t 7))), (.op (some 9) none (.fld 0 (.t 8))), (.op (some 10) none (.load false 1 (.t 9))), (.op (some 11) none (.ibin .sub (.t 10) (.c (.v (.int .i64 1))))), (.op (some 12) none (.nilchk (.t 7))), (.op (some 13) none (.fld 0 (.t 12))), (.op none none (.store 1 (.t 13) (.t 11)))]) (.seq (.seq (.ops [(.op (some 14) none (.move (.t 0))), (.op (some 15) none (.nilchk (.t 14))), (.op (some 16) none (.fld 0 (.t 15))), (.op (some 17) none (.load false 1 (.t 16))), (.op (some 18) none (.ibin .lss (.t 17) (.c (.v (.int .i64 0)))))]) (.cond (.t 18) (.seq (.ops [(.op (some 4) none (.move (.c (.v (.bool false)))))]) .ret) .skip)) (.seq (.seq (.ops [(.op (some 19) none (.fld 5 (.t 3))), (.op (some 20) none (.load false 1 (.t 19))), (.op (some 21) none (.len .slice (.t 20))), (.op (some 22) none (.move (.c (.v (.int .i64 0)))))]) (.block 0 (.loop (.seq (.ops [(.op (some 23) none (.ibin .lss (.t 22) (.t 21)))]) (.seq (.cond (.t 23) .skip (.exit 0)) (.seq (.block 1 (.seq (.ops [(.op (some 24) none (.idx 6 (.t 20) (.t 22))), (.op (some 25) none (.load true 6 (.t 24))), (.op (some 6) none (.alloc [(.v (.int .i64 0)), (.v (.int .i64 0)), (.v (.bool false)), (.v (.string (ByteArray.mk #[]))), (.v (.slice none 0 0)), (.v (.slice none 0 0))])), (.op none none (.store 6 (.t 6) (.t 25)))]) (.seq (.ops [(.op (some 26) none (.move (.t 0))), (.op (some 27) none (.load true 6 (.t 6))), (.call (some 28) none (.c (.fn (.func 130) [] [])) [(.t 26), (.t 27)]), (.op (some 29) none (.not (.t 28)))]) (.cond (.t 29) (.seq (.ops [(.op (some 4) none (.move (.c (.v (.bool false)))))]) .ret) .skip)))) (.ops [(.op (some 30) none (.ibin .add (.t 22) (.c (.v (.int .i64 1))))), (.op (some 22) none (.move (.t 30)))]))))))) (.seq (.ops [(.op (some 4) none (.move (.c (.v (.bool true)))))]) .ret)))))⟩
theorem cf130 : compFn Try.prog 130 [] = some c130 := by kernel_rfl
def c131 : AFn := ⟨[(.t 2)], (.seq (.ops [(.op (some 2) none (.move (.c (.v (.int .i64 0)))))]) (.seq (.seq (.ops [(.op (some 3) none (.move (.t 0)))]) (.block 0 (.seq (.seq (.ops [(.op (some 5) none (.ibin .eql (.t 3) (.c (.v (.int .i64 1))))), (.op (some 4) none (.move (.t 5)))]) (.cond (.t 4) .skip (.seq (.ops [(.op (some 6) none (.ibin .eql (.t 3) (.c (.v (.int .i64 2))))), (.op (some 4) none (.move (.t 6)))]) (.cond (.t 4) .skip (.seq (.ops [(.op (some 7) none (.ibin .eql (.t 3) (.c (.v (.int .i64 10))))), (.op (some 4) none (.move (.t 7)))]) (.cond (.t 4) .skip (.ops [(.op (some 8) none (.ibin .eql (.t 3) (.c (.v (.int .i64 11))))), (.op (some 4) none (.move (.t 8)))]))))))) (.cond (.t 4) (.seq (.ops [(.op (some 2) none (.move (.c (.v (.int .i64 0)))))]) .ret) (.seq (.seq (.ops [(.op (some 10) none (.ibin .eql (.t 3) (.c (.v (.int .i64 8))))), (.op (some 9) none (.move (.t 10)))]) (.cond (.t 9) .skip (.ops [(.op (some 11) none (.ibin .eql (.t 3) (.c (.v (.int .i64 9))))), (.op (some 9) none (.move (.t 11)))]))) (.cond (.t 9) (.seq (.ops [(.op (some 2) none (.move (.c (.v (.int .i64 1)))))]) .ret) (.seq (.seq (.ops [(.op (some 13) none (.ibin .eql (.t 3) (.c (.v (.int .i64 3))))), (.op (some 12) none (.move (.t 13)))]) (.cond (.t 12) .skip (.seq (.ops [(.op (some 14) none (.ibin .eql (.t 3) (.c (.v (.int .i64 4))))), (.op (some 12) none (.move (.t 14)))]) (.cond (.t 12) .skip (.seq (.ops [(.op (some 15) none (.ibin .eql (.t 3) (.c (.v (.int .i64 5))))), (.op (some 12) none (.move (.t 15)))]) (.cond (.t 12) .skip (.ops [(.op (some 16) none (.ibin .eql (.t 3) (.c (.v (.int .i64 6))))), (.op (some 12) none (.move (.t 16)))]))))))) (.cond (.t 12) (.seq (.ops [(.op (some 2) none (.move (.c (.v (.int .i64 2)))))]) .ret) (.seq (.ops [(.op (some 18) none (.ibin .eql (.t 3) (.c (.v (.int .i64 7))))), (.op (some 17) none (.move (.t 18)))]) (.cond (.t 17) (.seq (.ops [(.op (some 2) none (.move (.c (.v (.int .i64 3)))))]) .ret) .skip)))))))))) (.seq (.ops [(.op (some 2) none (.move (.c (.v (.int .i64 (-1))))))]) .ret)))⟩
theorem cf131 : compFn Try.prog 131 [] = some c131 := by kernel_rfl
def c132 : AFn := ⟨[(.t 2)], (.seq (.ops [(.op (some 1) none (.box (.t 0))), (.op (some 2) none (.move (.c (.v (.bool false)))))]) (.seq (.ops [(.op (some 7) none (.load true 2 (.t 1))), (.call (some 8) none (.c (.fn (.func 174) [] [])) [(.t 7)]), (.op (some 6) none (.move (.t 8))), (.op (some 9) none (.ext (.t 6) 0)), (.op (some 10) none (.ext (.t 6) 1)), (.op (some 3) none (.alloc [(.v (.int .i64 0)), (.v (.slice none 0 0))])), (.op none none (.store 2 (.t 3) (.t 9))), (.op (some 4) none (.move (.t 10)))]) (.seq (.seq (.ops [(.op (some 11) none (.move (.t 4))), (.op (some 12) none (.ibin .neq (.t 11) (.c (.v (.int .i64 0))))), (.op (some 13) none (.move (.t 12))), (.op (some 14) (some (13, false)) (.fld 0 (.t 3))), (.op (some 15) (some (13, false)) (.load false 1 (.t 14))), (.op (some 16) (some (13, false)) (.fld 0 (.t 1))), (.op (some 17) (some (13, false)) (.load false 1 (.t 16))), (.op (some 18) (some (13, false)) (.ibin .neq (.t 15) (.t 17))), (.op (some 19) none (.pick (.t 13) (.c (.v (.bool true))) (.t 18))), (.op (some 20) none (.move (.t 19))), (.op (some 21) (some (20, false)) (.fld 1 (.t 3))), (.op (some 22) (some (20, false)) (.load false 1 (.t 21))), (.op (some 23) (some (20, false)) (.len .slice (.t 22))), (.op (some 24) (some (20, false)) (.fld 1 (.t 1))), (.op (some 25) (some (20, false)) (.load false 1 (.t 24))), (.op (some 26) (some (20, false)) (.len .slice (.t 25))), (.op (some 27) (some (20, false)) (.ibin .neq (.t 23) (.t 26))), (.op (some 28) none (.pick (.t 20) (.c (.v (.bool true))) (.t 27)))]) (.cond (.t 28) (.seq (.ops [(.op (some 2) none (.move (.c (.v (.bool false)))))]) .ret) .skip)) (.seq (.seq (.ops [(.op (some 5) none (.move (.c (.v (.int .i64 0)))))]) (.block 0 (.loop (.seq (.seq (.ops [(.op (some 29) none (.move (.t 5))), (.op (some 30) none (.fld 1 (.t 3))), (.op (some 31) none (.load false 1 (.t 30))), (.op (some 32) none (.len .slice (.t 31))), (.op (some 33) none (.ibin .lss (.t 29) (.t 32)))]) (.cond (.t 33) .skip (.exit 0))) (.seq (.block 1 (.seq (.draw [⟨(.op (some 36) none (.fld 1 (.t 3))), []⟩, ⟨(.op (some 37) none (.load false 1 (.t 36))), []⟩, ⟨(.op (some 38) none (.move (.t 5))), []⟩, ⟨(.op (some 39) none (.idx 2 (.t 37) (.t 38))), []⟩, ⟨(.op (some 40) none (.load true 2 (.t 39))), []⟩, ⟨(.op (some 41) none (.fld 1 (.t 1))), []⟩, ⟨(.op (some 42) none (.load false 1 (.t 41))), []⟩, ⟨(.op (some 43) none (.move (.t 5))), []⟩, ⟨(.op (some 44) none (.idx 2 (.t 42) (.t 43))), []⟩, ⟨(.op (some 45) none (.load true 2 (.t 44))), []⟩, ⟨(.op (some 46) none (.ebin true [.int, .int] (.t 40) (.t 45))), []⟩]) (.cond (.t 46) (.seq (.ops [(.op (some 2) none (.move (.c (.v (.bool false)))))]) .ret) .skip))) (.ops [(.op (some 34) none (.move (.t 5))), (.op (some 35) none (.ibin .add (.t 34) (.c (.v (.int .i64 1))))), (.op (some 5) none (.move (.t 35)))])))))) (.seq (.ops [(.op (some 2) none (.move (.c (.v (.bool true)))))]) .ret)))))⟩
theorem cf132 : compFn Try.prog 132 [(7, [(0, []), (1, []), (2, []), (3, []), (4, []), (5, []), (6, []), (7, []), (8, []), (9, []), (10, [])])] = some c132 := by kernel_rfl
def c143 : AFn := ⟨[(.c 6 6 true), (.t 7)], (.seq (.ops [(.op (some 3) none (.box (.t 0))), (.op (some 4) none (.box (.t 1))), (.op (some 6) none (.alloc [(.v (.int .i64 0)), (.v (.int .i64 0)), (.v (.bool false)), (.v (.string (ByteArray.mk #[]))), (.v (.slice none 0 0)), (.v (.slice none 0 0))])), (.op (some 7) none (.move (.c (.v (.bool false)))))]) (.seq (.block 0 (.seq (.ops [(.op (some 9) none (.fld 0 (.t 4))), (.op (some 10) none (.load false 1 (.t 9))), (.op (some 11) none (.ibin .neq (.t 10) (.c (.v (.int .i64 1))))), (.op (some 12) none (.move (.t 11))), (.op (some 13) (some (12, false)) (.fld 1 (.t 4))), (.op (some 14) (some (12, false)) (.load false 1 (.t 13))), (.op (some 15) (some (12, false)) (.fld 0 (.t 3))), (.op (some 16) (some (12, false)) (.load false 1 (.t 15))), (.op (some 17) (some (12, false)) (.move (.t 2))), (.op (some 18) (some (12, false)) (.ibin .add (.t 16) (.t 17))), (.op (some 19) (some (12, false)) (.ibin .lss (.t 14) (.t 18))), (.op (some 20) none (.pick (.t 12) (.c (.v (.bool true))) (.t 19))), (.op (some 8) none (.move (.t 20)))]) (.cond (.t 8) (.seq (.ops [(.op (some 21) none (.build [(.v (.int .i64 0)), (.v (.int .i64 0)), (.v (.bool false)), (.v (.string (ByteArray.mk #[]))), (.v (.slice none 0 0)), (.v (.slice none 0 0))] [])), (.op none none (.store 6 (.t 6) (.t 21))), (.op (some 7) none (.move (.c (.v (.bool false)))))]) .ret) (.seq (.ops [(.op (some 23) none (.fld 1 (.t 4))), (.op (some 24) none (.load false 1 (.t 23))), (.op (some 25) none (.fld 0 (.t 3))), (.op (some 26) none (.load false 1 (.t 25))), (.op (some 27) none (.move (.t 2))), (.op (some 28) none (.ibin .add (.t 26) (.t 27))), (.op (some 29) none (.ibin .gtr (.t 24) (.t 28))), (.op (some 22) none (.move (.t 29)))]) (.cond (.t 22) (.seq (.ops [(.op (some 30) none (.fld 1 (.t 4))), (.op (some 31) none (.load false 1 (.t 30))), (.op (some 32) none (.ibin .sub (.t 31) (.c (.v (.int .i64 1))))), (.call (some 33) none (.c (.fn (.func 161) [] [])) [(.t 32)]), (.op none none (.store 6 (.t 6) (.t 33))), (.op (some 7) none (.move (.c (.v (.bool true)))))]) .ret) .skip))))) (.seq (.ops [(.op (some 34) none (.fld 1 (.t 3))), (.op (some 35) none (.load true 6 (.t 34))), (.op (some 36) none (.fld 7 (.t 3))), (.op (some 37) none (.load false 1 (.t 36))), (.op (some 38) none (.move (.t 2))), (.op (some 39) none (.build [(.v (.int .i64 0)), (.v (.int .i64 0))] [(0, (1, (.c (.v (.int .i64 0))))), (1, (1, (.t 38)))])), (.op (some 40) none (.func (.func 126) [(.t 39)] [])), (.call (some 41) none (.c (.fn (.func 123) [] [])) [(.t 35), (.c (.v (.int .i64 0))), (.t 37), (.t 40)]), (.op none none (.store 6 (.t 6) (.t 41))), (.op (some 7) none (.move (.c (.v (.bool true)))))]) .ret)))⟩
theorem cf143 : compFn Try.prog 143 [] = some c143 := by kernel_rfl
def c161 : AFn := ⟨[(.c 2 6 true)], (.seq (.ops [(.op (some 2) none (.alloc [(.v (.int .i64 0)), (.v (.int .i64 0)), (.v (.bool false)), (.v (.string (ByteArray.mk #[]))), (.v (.slice none 0 0)), (.v (.slice none 0 0))]))]) (.seq (.ops [(.op (some 3) none (.move (.t 0))), (.op (some 4) none (.build [(.v (.int .i64 0)), (.v (.int .i64 0)), (.v (.bool false)), (.v (.string (ByteArray.mk #[]))), (.v (.slice none 0 0)), (.v (.slice none 0 0))] [(0, (1, (.c (.v (.int .i64 1))))), (1, (1, (.t 3)))])), (.op none none (.store 6 (.t 2) (.t 4)))]) .ret))⟩
theorem cf161 : compFn Try.prog 161 [] = some c161 := by kernel_rfl
end Go.Proofs.Ytooaiddfokbffaa.E

/- The code of functions, over abstract states. Conditions: none. -/
set_option maxRecDepth 100000
set_option linter.unusedVariables false
namespace Go.Proofs.Ytooaiddfokbffaa.E
open Go Go.Proofs
def c171 : AFn := ⟨[(.c 2 6 true)], (.seq (.ops [(.op (some 1) none (.box (.t 0))), (.op (some 2) none (.alloc [(.v (.int .i64 0)), (.v (.int .i64 0)), (.v (.bool false)), (.v (.string (ByteArray.mk #[]))), (.v (.slice none 0 0)), (.v (.slice none 0 0))]))]) (.seq (.ops [(.op (some 4) none (.fld 0 (.t 1))), (.op (some 5) none (.load false 1 (.t 4))), (.op (some 6) none (.build [(.v (.int .i64 0)), (.v (.int .i64 0)), (.v (.bool false)), (.v (.string (ByteArray.mk #[]))), (.v (.slice none 0 0)), (.v (.slice none 0 0))] [(0, (1, (.t 5)))])), (.op (some 3) none (.alloc [(.v (.int .i64 0)), (.v (.int .i64 0)), (.v (.bool false)), (.v (.string (ByteArray.mk #[]))), (.v (.slice none 0 0)), (.v (.slice none 0 0))])), (.op none none (.store 6 (.t 3) (.t 6)))]) (.seq (.seq (.ops [(.op (some 7) none (.fld 0 (.t 1))), (.op (some 8) none (.load false 1 (.t 7)))]) (.block 0 (.seq (.seq (.ops [(.op (some 10) none (.ibin .eql (.t 8) (.c (.v (.int .i64 1))))), (.op (some 9) none (.move (.t 10)))]) (.cond (.t 9) .skip (.ops [(.op (some 11) none (.ibin .eql (.t 8) (.c (.v (.int .i64 11))))), (.op (some 9) none (.move (.t 11)))]))) (.cond (.t 9) (.ops [(.op (some 12) none (.fld 1 (.t 1))), (.op (some 13) none (.load false 1 (.t 12))), (.op (some 14) none (.fld 1 (.t 3))), (.op none none (.store 1 (.t 14) (.t 13)))]) (.seq (.seq (.ops [(.op (some 16) none (.ibin .eql (.t 8) (.c (.v (.int .i64 3))))), (.op (some 15) none (.move (.t 16)))]) (.cond (.t 15) .skip (.seq (.ops [(.op (some 17) none (.ibin .eql (.t 8) (.c (.v (.int .i64 4))))), (.op (some 15) none (.move (.t 17)))]) (.cond (.t 15) .skip (.ops [(.op (some 18) none (.ibin .eql (.t 8) (.c (.v (.int .i64 5))))), (.op (some 15) none (.move (.t 18)))]))))) (.cond (.t 15) (.ops [(.op (some 19) none (.fld 2 (.t 1))), (.op (some 20) none (.load false 1 (.t 19))), (.op (some 21) none (.fld 2 (.t 3))), (.op none none (.store 1 (.t 21) (.t 20)))]) (.seq (.ops [(.op (some 23) none (.ibin .eql (.t 8) (.c (.v (.int .i64 2))))), (.op (some 22) none (.move (.t 23)))]) (.cond (.t 22) (.ops [(.op (some 24) none (.fld 4 (.t 1))), (.op (some 25) none (.load false 1 (.t 24))), (.call (some 26) none (.c (.fn (.func 197) [] [])) [(.t 25)]), (.op (some 27) none (.fld 4 (.t 3))), (.op none none (.store 1 (.t 27) (.t 26)))]) (.seq (.ops [(.op (some 29) none (.ibin .eql (.t 8) (.c (.v (.int .i64 10))))), (.op (some 28) none (.move (.t 29)))]) (.cond (.t 28) (.draw [⟨(.op (some 30) none (.fld 3 (.t 1))), []⟩, ⟨(.op (some 31) none (.load false 1 (.t 30))), []⟩, ⟨(.op (some 32) none (.fld 4 (.t 1))), []⟩, ⟨(.op (some 33) none (.load false 1 (.t 32))), []⟩, ⟨(.op (some 35) none (.fld 3 (.t 3))), []⟩, ⟨(.call (some 34) none (.c (.fn (.func 197) [] [])) [(.t 33)]), [0, 1, 4]⟩, ⟨(.op none none (.store 1 (.t 35) (.t 31))), []⟩, ⟨(.op (some 36) none (.fld 4 (.t 3))), []⟩, ⟨(.op none none (.store 1 (.t 36) (.t 34))), []⟩]) .skip)))))))))) (.seq (.ops [(.op (some 37) none (.load true 6 (.t 3))), (.op none none (.store 6 (.t 2) (.t 37)))]) .ret))))⟩
theorem cf171 : compFn Try.prog 171 [(13, [(0, []), (1, []), (2, []), (3, []), (5, []), (4, [0, 1, 4]), (6, []), (7, []), (8, [])])] = some c171 := by kernel_rfl
def c172 : AFn := ⟨[(.t 6)], (.seq (.ops [(.op (some 6) none (.move (.c (.v (.int .i64 0)))))]) (.seq (.seq (.ops [(.op (some 7) none (.move (.t 1))), (.op (some 8) none (.ibin .eql (.t 7) (.c (.v (.int .i64 1))))), (.op (some 9) none (.move (.t 8))), (.op (some 10) (some (9, true)) (.move (.t 0))), (.call (some 11) (some (9, true)) (.c (.fn (.func 198) [] [])) [(.t 10)]), (.op (some 12) none (.pick (.t 9) (.t 11) (.c (.v (.bool false)))))]) (.cond (.t 12) (.seq (.ops [(.op (some 13) none (.move (.t 2))), (.op (some 14) none (.ibin .add (.t 13) (.c (.v (.int .i64 1))))), (.op (some 6) none (.move (.t 14)))]) .ret) .skip)) (.seq (.ops [(.op (some 15) none (.move (.t 2))), (.op (some 6) none (.move (.t 15)))]) .ret)))⟩
theorem cf172 : compFn Try.prog 172 [] = some c172 := by kernel_rfl
def c173 : AFn := ⟨[(.t 2)], (.seq (.ops [(.op (some 1) none (.box (.t 0))), (.op (some 2) none (.move (.c (.v (.bool false)))))]) (.seq (.ops [(.op (some 6) none (.load true 2 (.t 1))), (.call (some 7) none (.c (.fn (.func 178) [] [])) [(.t 6)]), (.op (some 5) none (.move (.t 7))), (.op (some 8) none (.ext (.t 5) 0)), (.op (some 9) none (.ext (.t 5) 1)), (.op (some 3) none (.alloc [(.v (.int .i64 0)), (.v (.slice none 0 0))])), (.op none none (.store 2 (.t 3) (.t 8))), (.op (some 4) none (.move (.t 9)))]) (.seq (.ops [(.op (some 10) none (.move (.t 4))), (.op (some 11) none (.ibin .eql (.t 10) (.c (.v (.int .i64 0))))), (.op (some 12) none (.move (.t 11))), (.op (some 13) (some (12, true)) (.fld 0 (.t 3))), (.op (some 14) (some (12, true)) (.load false 1 (.t 13))), (.op (some 15) (some (12, true)) (.fld 0 (.t 1))), (.op (some 16) (some (12, true)) (.load false 1 (.t 15))), (.op (some 17) (some (12, true)) (.ibin .eql (.t 14) (.t 16))), (.op (some 18) none (.pick (.t 12) (.t 17) (.c (.v (.bool false))))), (.op (some 19) none (.move (.t 18))), (.op (some 20) (some (19, true)) (.fld 1 (.t 3))), (.op (some 21) (some (19, true)) (.load false 1 (.t 20))), (.op (some 22) (some (19, true)) (.fld 1 (.t 1))), (.op (some 23) (some (19, true)) (.load false 1 (.t 22))), (.call (some 24) (some (19, true)) (.c (.fn (.func 176) [] [])) [(.t 21), (.t 23)]), (.op (some 25) none (.pick (.t 19) (.t 24) (.c (.v (.bool false))))), (.op (some 2) none (.move (.t 25)))]) .ret)))⟩
theorem cf173 : compFn Try.prog 173 [] = some c173 := by kernel_rfl
def c174 : AFn := ⟨[(.c 2 2 true), (.t 3)], (.seq (.ops [(.op (some 1) none (.box (.t 0))), (.op (some 2) none (.alloc [(.v (.int .i64 0)), (.v (.slice none 0 0))])), (.op (some 3) none (.move (.c (.v (.int .i64 0)))))]) (.seq (.ops [(.op (some 5) none (.load true 2 (.t 1))), (.call (some 6) none (.c (.fn (.func 183) [] [])) [(.t 5)]), (.op (some 4) none (.move (.t 6)))]) (.seq (.seq (.ops [(.op (some 7) none (.move (.t 4))), (.op (some 8) none (.not (.t 7)))]) (.cond (.t 8) (.seq (.ops [(.op (some 9) none (.build [(.v (.int .i64 0)), (.v (.slice none 0 0))] [])), (.op none none (.store 2 (.t 2) (.t 9))), (.op (some 3) none (.move (.c (.v (.int .i64 13)))))]) .ret) .skip)) (.seq (.ops [(.op (some 10) none (.load true 2 (.t 1))), (.call (some 11) none (.c (.fn (.func 184) [] [])) [(.t 10)]), (.op none none (.store 2 (.t 2) (.t 11))), (.op (some 3) none (.move (.c (.v (.int .i64 0)))))]) .ret))))⟩
theorem cf174 : compFn Try.prog 174 [] = some c174 := by kernel_rfl
def c176 : AFn := ⟨[(.t 4)], (.seq (.ops [(.op (some 4) none (.move (.c (.v (.bool false)))))]) (.seq (.seq (.ops [(.op (some 6) none (.move (.t 0))), (.op (some 7) none (.len .slice (.t 6))), (.op (some 8) none (.move (.t 1))), (.op (some 9) none (.len .slice (.t 8))), (.op (some 10) none (.ibin .neq (.t 7) (.t 9)))]) (.cond (.t 10) (.seq (.ops [(.op (some 4) none (.move (.c (.v (.bool false)))))]) .ret) .skip)) (.seq (.seq (.ops [(.op (some 11) none (.move (.t 0))), (.op (some 12) none (.len .slice (.t 11))), (.op (some 13) none (.move (.c (.v (.int .i64 0)))))]) (.block 0 (.loop (.seq (.ops [(.op (some 14) none (.ibin .lss (.t 13) (.t 12)))]) (.seq (.cond (.t 14) .skip (.exit 0)) (.seq (.block 1 (.seq (.ops [(.op (some 15) none (.move (.t 13))), (.op (some 5) none (.move (.t 15)))]) (.seq (.draw [⟨(.op (some 16) none (.move (.t 0))), []⟩, ⟨(.op (some 17) none (.move (.t 5))), []⟩, ⟨(.op (some 18) none (.idx 2 (.t 16) (.t 17))), []⟩, ⟨(.op (some 19) none (.load true 2 (.t 18))), []⟩, ⟨(.op (some 20) none (.move (.t 1))), []⟩, ⟨(.op (some 21) none (.move (.t 5))), []⟩, ⟨(.op (some 22) none (.idx 2 (.t 20) (.t 21))), []⟩, ⟨(.op (some 23) none (.load true 2 (.t 22))), []⟩, ⟨(.op (some 24) none (.ebin true [.int, .int] (.t 19) (.t 23))), []⟩]) (.cond (.t 24) (.seq (.ops [(.op (some 4) none (.move (.c (.v (.bool false)))))]) .ret) .skip)))) (.ops [(.op (some 25) none (.ibin .add (.t 13) (.c (.v (.int .i64 1))))), (.op (some 13) none (.move (.t 25)))]))))))) (.seq (.ops [(.op (some 4) none (.move (.c (.v (.bool true)))))]) .ret))))⟩
theorem cf176 : compFn Try.prog 176 [(6, [(0, []), (1, []), (2, []), (3, []), (4, []), (5, []), (6, []), (7, []), (8, [])])] = some c176 := by kernel_rfl
def c178 : AFn := ⟨[(.c 2 2 true), (.t 3)], (.seq (.ops [(.op (some 1) none (.box (.t 0))), (.op (some 2) none (.alloc [(.v (.int .i64 0)), (.v (.slice none 0 0))])), (.op (some 3) none (.move (.c (.v (.int .i64 0)))))]) (.seq (.seq (.ops [(.op (some 4) none (.load true 2 (.t 1))), (.call (some 5) none (.c (.fn (.func 179) [] [])) [(.t 4)]), (.op (some 6) none (.not (.t 5)))]) (.cond (.t 6) (.seq (.ops [(.op (some 7) none (.build [(.v (.int .i64 0)), (.v (.slice none 0 0))] [])), (.op none none (.store 2 (.t 2) (.t 7))), (.op (some 3) none (.move (.c (.v (.int .i64 13)))))]) .ret) .skip)) (.seq (.ops [(.op (some 8) none (.load true 2 (.t 1))), (.call (some 9) none (.c (.fn (.func 199) [] [])) [(.t 8)]), (.op none none (.store 2 (.t 2) (.t 9))), (.op (some 3) none (.move (.c (.v (.int .i64 0)))))]) .ret)))⟩
theorem cf178 : compFn Try.prog 178 [] = some c178 := by kernel_rfl
def c179 : AFn := ⟨[(.t 2)], (.seq (.ops [(.op (some 1) none (.box (.t 0))), (.op (some 2) none (.move (.c (.v (.bool false)))))]) (.seq (.seq (.ops [(.op (some 5) none (.fld 0 (.t 1))), (.op (some 6) none (.load false 1 (.t 5))), (.call (some 7) none (.c (.fn (.func 200) [] [])) [(.t 6)]), (.op (some 8) none (.not (.t 7))), (.op (some 9) none (.move (.t 8))), (.op (some 10) (some (9, false)) (.fld 1 (.t 1))), (.op (some 11) (some (9, false)) (.load false 1 (.t 10))), (.op (some 12) (some (9, false)) (.len .slice (.t 11))), (.op (some 13) (some (9, false)) (.ibin .gtr (.t 12) (.c (.v (.int .i64 64))))), (.op (some 14) none (.pick (.t 9) (.c (.v (.bool true))) (.t 13)))]) (.cond (.t 14) (.seq (.ops [(.op (some 2) none (.move (.c (.v (.bool false)))))]) .ret) .skip)) (.seq (.seq (.ops [(.op (some 15) none (.fld 1 (.t 1))), (.op (some 16) none (.load false 1 (.t 15))), (.op (some 17) none (.len .slice (.t 16))), (.op (some 18) none (.move (.c (.v (.int .i64 0)))))]) (.block 0 (.loop (.seq (.ops [(.op (some 19) none (.ibin .lss (.t 18) (.t 17)))]) (.seq (.cond (.t 19) .skip (.exit 0)) (.seq (.block 1 (.seq (.ops [(.op (some 20) none (.idx 2 (.t 16) (.t 18))), (.op (some 21) none (.load true 2 (.t 20))), (.op (some 4) none (.alloc [(.v (.int .i64 0)), (.v (.int .i64 0))])), (.op none none (.store 2 (.t 4) (.t 21)))]) (.seq (.ops [(.op (some 22) none (.fld 0 (.t 4))), (.op (some 23) none (.load false 1 (.t 22))), (.call (some 24) none (.c (.fn (.func 200) [] [])) [(.t 23)]), (.op (some 25) none (.not (.t 24))), (.op (some 26) none (.move (.t 25))), (.op (some 27) (some (26, false)) (.fld 1 (.t 4))), (.op (some 28) (some (26, false)) (.load false 1 (.t 27))), (.call (some 29) (some (26, false)) (.c (.fn (.func 200) [] [])) [(.t 28)]), (.op (some 30) (some (26, false)) (.not (.t 29))), (.op (some 31) none (.pick (.t 26) (.c (.v (.bool true))) (.t 30)))]) (.cond (.t 31) (.seq (.ops [(.op (some 2) none (.move (.c (.v (.bool false)))))]) .ret) .skip)))) (.ops [(.op (some 32) none (.ibin .add (.t 18) (.c (.v (.int .i64 1))))), (.op (some 18) none (.move (.t 32)))]))))))) (.seq (.ops [(.op (some 2) none (.move (.c (.v (.bool true)))))]) .ret))))⟩
theorem cf179 : compFn Try.prog 179 [] = some c179 := by kernel_rfl
def c183 : AFn := ⟨[(.t 2)], (.seq (.ops [(.op (some 1) none (.box (.t 0))), (.op (some 2) none (.move (.c (.v (.bool false)))))]) (.seq (.seq (.ops [(.op (some 5) none (.fld 0 (.t 1))), (.op (some 6) none (.load false 1 (.t 5))), (.op (some 7) none (.ibin .lss (.t 6) (.c (.v (.int .i64 0))))), (.op (some 8) none (.move (.t 7))), (.op (some 9) (some (8, false)) (.fld 0 (.t 1))), (.op (some 10) (some (8, false)) (.load false 1 (.t 9))), (.op (some 11) (some (8, false)) (.ibin .gtr (.t 10) (.c (.v (.int .i64 1000))))), (.op (some 12) none (.pick (.t 8) (.c (.v (.bool true))) (.t 11))), (.op (some 13) none (.move (.t 12))), (.op (some 14) (some (13, false)) (.fld 1 (.t 1))), (.op (some 15) (some (13, false)) (.load false 1 (.t 14))), (.op (some 16) (some (13, false)) (.len .slice (.t 15))), (.op (some 17) (some (13, false)) (.ibin .gtr (.t 16) (.c (.v (.int .i64 64))))), (.op (some 18) none (.pick (.t 13) (.c (.v (.bool true))) (.t 17)))]) (.cond (.t 18) (.seq (.ops [(.op (some 2) none (.move (.c (.v (.bool false)))))]) .ret) .skip)) (.seq (.seq (.ops [(.op (some 3) none (.move (.c (.v (.int .i64 0)))))]) (.block 0 (.loop (.seq (.seq (.ops [(.op (some 19) none (.move (.t 3))), (.op (some 20) none (.fld 1 (.t 1))), (.op (some 21) none (.load false 1 (.t 20))), (.op (some 22) none (.len .slice (.t 21))), (.op (some 23) none (.ibin .lss (.t 19) (.t 22)))]) (.cond (.t 23) .skip (.exit 0))) (.seq (.block 1 (.seq (.ops [(.op (some 26) none (.fld 1 (.t 1))), (.op (some 27) none (.load false 1 (.t 26))), (.op (some 28) none (.move (.t 3))), (.op (some 29) none (.idx 2 (.t 27) (.t 28))), (.op (some 30) none (.load true 2 (.t 29))), (.op (some 4) none (.alloc [(.v (.int .i64 0)), (.v (.int .i64 0))])), (.op none none (.store 2 (.t 4) (.t 30)))]) (.seq (.ops [(.op (some 31) none (.fld 0 (.t 4))), (.op (some 32) none (.load false 1 (.t 31))), (.op (some 33) none (.ibin .lss (.t 32) (.c (.v (.int .i64 0))))), (.op (some 34) none (.move (.t 33))), (.op (some 35) (some (34, false)) (.fld 0 (.t 4))), (.op (some 36) (some (34, false)) (.load false 1 (.t 35))), (.op (some 37) (some (34, false)) (.ibin .gtr (.t 36) (.c (.v (.int .i64 1000))))), (.op (some 38) none (.pick (.t 34) (.c (.v (.bool true))) (.t 37))), (.op (some 39) none (.move (.t 38))), (.op (some 40) (some (39, false)) (.fld 1 (.t 4))), (.op (some 41) (some (39, false)) (.load false 1 (.t 40))), (.op (some 42) (some (39, false)) (.ibin .lss (.t 41) (.c (.v (.int .i64 0))))), (.op (some 43) none (.pick (.t 39) (.c (.v (.bool true))) (.t 42))), (.op (some 44) none (.move (.t 43))), (.op (some 45) (some (44, false)) (.fld 1 (.t 4))), (.op (some 46) (some (44, false)) (.load false 1 (.t 45))), (.op (some 47) (some (44, false)) (.ibin .gtr (.t 46) (.c (.v (.int .i64 1000))))), (.op (some 48) none (.pick (.t 44) (.c (.v (.bool true))) (.t 47)))]) (.cond (.t 48) (.seq (.ops [(.op (some 2) none (.move (.c (.v (.bool false)))))]) .ret) .skip)))) (.ops [(.op (some 24) none (.move (.t 3))), (.op (some 25) none (.ibin .add (.t 24) (.c (.v (.int .i64 1))))), (.op (some 3) none (.move (.t 25)))])))))) (.seq (.ops [(.op (some 2) none (.move (.c (.v (.bool true)))))]) .ret))))⟩
theorem cf183 : compFn Try.prog 183 [] = some c183 := by kernel_rfl
def c184 : AFn := ⟨[(.c 2 2 true)], (.seq (.ops [(.op (some 1) none (.box (.t 0))), (.op (some 2) none (.alloc [(.v (.int .i64 0)), (.v (.slice none 0 0))]))]) (.seq (.ops [(.op (some 9) none (.fld 0 (.t 1))), (.op (some 10) none (.load false 1 (.t 9))), (.op (some 11) none (.build [(.v (.int .i64 0)), (.v (.slice none 0 0))] [(0, (1, (.t 10)))])), (.op (some 3) none (.alloc [(.v (.int .i64 0)), (.v (.slice none 0 0))])), (.op none none (.store 2 (.t 3) (.t 11)))]) (.seq (.ops [(.op (some 4) none (.move (.c (.v (.int .i64 (-1))))))]) (.seq (.block 0 (.loop (.block 1 (.seq (.ops [(.op (some 5) none (.move (.c (.v (.int .i64 (-1))))))]) (.seq (.ops [(.op (some 6) none (.move (.c (.v (.int .i64 0)))))]) (.seq (.seq (.ops [(.op (some 7) none (.move (.c (.v (.int .i64 0)))))]) (.block 2 (.loop (.seq (.seq (.ops [(.op (some 12) none (.move (.t 7))), (.op (some 13) none (.fld 1 (.t 1))), (.op (some 14) none (.load false 1 (.t 13))), (.op (some 15) none (.len .slice (.t 14))), (.op (some 16) none (.ibin .lss (.t 12) (.t 15)))]) (.cond (.t 16) .skip (.exit 2))) (.seq (.block 3 (.seq (.ops [(.op (some 19) none (.fld 1 (.t 1))), (.op (some 20) none (.load false 1 (.t 19))), (.op (some 21) none (.move (.t 7))), (.op (some 22) none (.idx 2 (.t 20) (.t 21))), (.op (some 23) none (.load true 2 (.t 22))), (.op (some 8) none (.alloc [(.v (.int .i64 0)), (.v (.int .i64 0))])), (.op none none (.store 2 (.t 8) (.t 23)))]) (.seq (.seq (.ops [(.op (some 24) none (.fld 0 (.t 8))), (.op (some 25) none (.load false 1 (.t 24))), (.op (some 26) none (.move (.t 4))), (.op (some 27) none (.ibin .leq (.t 25) (.t 26)))]) (.cond (.t 27) (.exit 3) .skip)) (.seq (.ops [(.op (some 28) none (.move (.t 5))), (.op (some 29) none (.ibin .lss (.t 28) (.c (.v (.int .i64 0))))), (.op (some 30) none (.move (.t 29))), (.op (some 31) (some (30, false)) (.fld 0 (.t 8))), (.op (some 32) (some (30, false)) (.load false 1 (.t 31))), (.op (some 33) (some (30, false)) (.move (.t 5))), (.op (some 34) (some (30, false)) (.ibin .lss (.t 32) (.t 33))), (.op (some 35) none (.pick (.t 30) (.c (.v (.bool true))) (.t 34)))]) (.cond (.t 35) (.seq (.ops [(.op (some 36) none (.fld 0 (.t 8))), (.op (some 37) none (.load false 1 (.t 36))), (.op (some 5) none (.move (.t 37)))]) (.ops [(.op (some 38) none (.fld 1 (.t 8))), (.op (some 39) none (.load false 1 (.t 38))), (.op (some 6) none (.move (.t 39)))])) (.seq (.ops [(.op (some 40) none (.fld 0 (.t 8))), (.op (some 41) none (.load false 1 (.t 40))), (.op (some 42) none (.move (.t 5))), (.op (some 43) none (.ibin .eql (.t 41) (.t 42))), (.op (some 44) none (.move (.t 43))), (.op (some 45) (some (44, true)) (.fld 1 (.t 8))), (.op (some 46) (some (44, true)) (.load false 1 (.t 45))), (.op (some 47) (some (44, true)) (.move (.t 6))), (.op (some 48) (some (44, true)) (.ibin .gtr (.t 46) (.t 47))), (.op (some 49) none (.pick (.t 44) (.t 48) (.c (.v (.bool false)))))]) (.cond (.t 49) (.ops [(.op (some 50) none (.fld 1 (.t 8))), (.op (some 51) none (.load false 1 (.t 50))), (.op (some 6) none (.move (.t 51)))]) .skip))))))) (.ops [(.op (some 17) none (.move (.t 7))), (.op (some 18) none (.ibin .add (.t 17) (.c (.v (.int .i64 1))))), (.op (some 7) none (.move (.t 18)))])))))) (.seq (.seq (.ops [(.op (some 52) none (.move (.t 5))), (.op (some 53) none (.ibin .lss (.t 52) (.c (.v (.int .i64 0)))))]) (.cond (.t 53) (.exit 0) .skip)) (.seq (.ops [(.op (some 54) none (.fld 1 (.t 3))), (.op (some 55) none (.load false 1 (.t 54))), (.op (some 56) none (.move (.t 5))), (.op (some 57) none (.move (.t 6))), (.op (some 58) none (.build [(.v (.int .i64 0)), (.v (.int .i64 0))] [(0, (1, (.t 56))), (1, (1, (.t 57)))])), (.op (some 59) none (.buildS 2 1 [(.v (.int .i64 0)), (.v (.int .i64 0))] [(0, (2, (.t 58)))])), (.op (some 60) none (.append 2 16 (.t 55) (.t 59))), (.op (some 61) none (.fld 1 (.t 3))), (.op none none (.store 1 (.t 61) (.t 60)))]) (.seq (.seq (.ops [(.op (some 62) none (.move (.t 6))), (.op (some 63) none (.fld 0 (.t 1))), (.op (some 64) none (.load false 1 (.t 63))), (.op (some 65) none (.ibin .geq (.t 62) (.t 64)))]) (.cond (.t 65) (.ops [(.op (some 66) none (.fld 0 (.t 3))), (.op none none (.store 1 (.t 66) (.c (.v (.int .i64 0)))))]) .skip)) (.ops [(.op (some 67) none (.move (.t 5))), (.op (some 4) none (.move (.t 67)))])))))))))) (.seq (.ops [(.op (some 68) none (.load true 2 (.t 3))), (.op none none (.store 2 (.t 2) (.t 68)))]) .ret)))))⟩
theorem cf184 : compFn Try.prog 184 [] = some c184 := by kernel_rfl
def c197 : AFn := ⟨[(.t 2)], (.seq (.ops [(.op (some 2) none (.move (.c (.v (.slice none 0 0)))))]) (.seq (.ops [(.op (some 3) none (.move (.c (.v (.slice none 0 0)))))]) (.seq (.seq (.ops [(.op (some 6) none (.move (.t 0))), (.op (some 7) none (.len .slice (.t 6))), (.op (some 8) none (.move (.c (.v (.int .i64 0)))))]) (.block 0 (.loop (.seq (.ops [(.op (some 9) none (.ibin .lss (.t 8) (.t 7)))]) (.seq (.cond (.t 9) .skip (.exit 0)) (.seq (.block 1 (.seq (.ops [(.op (some 10) none (.idx 2 (.t 6) (.t 8))), (.op (some 11) none (.load true 2 (.t 10))), (.op (some 5) none (.alloc [(.v (.int .i64 0)), (.v (.slice none 0 0))])), (.op none none (.store 2 (.t 5) (.t 11)))]) (.draw [⟨(.op (some 12) none (.move (.t 3))), []⟩, ⟨(.op (some 13) none (.fld 0 (.t 5))), []⟩, ⟨(.op (some 14) none (.load false 1 (.t 13))), []⟩, ⟨(.op (some 15) none (.fld 1 (.t 5))), []⟩, ⟨(.op (some 16) none (.load false 1 (.t 15))), []⟩, ⟨(.call (some 17) none (.c (.fn (.func 211) [] [])) [(.t 16)]), [0, 1, 2]⟩, ⟨(.op (some 18) none (.build [(.v (.int .i64 0)), (.v (.slice none 0 0))] [(0, (1, (.t 14))), (1, (1, (.t 17)))])), []⟩, ⟨(.op (some 19) none (.buildS 2 1 [(.v (.int .i64 0)), (.v (.slice none 0 0))] [(0, (2, (.t 18)))])), []⟩, ⟨(.op (some 20) none (.append 2 32 (.t 12) (.t 19))), []⟩, ⟨(.op (some 3) none (.move (.t 20))), []⟩]))) (.ops [(.op (some 21) none (.ibin .add (.t 8) (.c (.v (.int .i64 1))))), (.op (some 8) none (.move (.t 21)))]))))))) (.seq (.ops [(.op (some 22) none (.move (.t 3))), (.op (some 2) none (.move (.t 22)))]) .ret))))⟩
theorem cf197 : compFn Try.prog 197 [(5, [(0, []), (1, []), (2, []), (3, []), (4, []), (5, [0, 1, 2]), (6, []), (7, []), (8, []), (9, [])])] = some c197 := by kernel_rfl
def c198 : AFn := ⟨[(.t 2)], (.seq (.ops [(.op (some 2) none (.move (.c (.v (.bool false)))))]) (.seq (.seq (.ops [(.op (some 3) none (.move (.t 0)))]) (.block 0 (.seq (.block 3 (.block 2 (.block 1 (.seq (.seq (.seq (.ops [(.op (some 5) none (.ibin .eql (.t 3) (.c (.v (.int .i64 3))))), (.op (some 4) none (.move (.t 5)))]) (.cond (.t 4) (.exit 1) .skip)) (.seq (.seq (.ops [(.op (some 7) none (.ibin .eql (.t 3) (.c (.v (.int .i64 4))))), (.op (some 6) none (.move (.t 7)))]) (.cond (.t 6) (.exit 2) .skip)) (.seq (.ops [(.op (some 9) none (.ibin .eql (.t 3) (.c (.v (.int .i64 6))))), (.op (some 8) none (.move (.t 9)))]) (.cond (.t 8) (.exit 3) .skip)))) (.exit 0))))) (.seq (.seq (.ops [(.op (some 2) none (.move (.c (.v (.bool true)))))]) .ret) (.exit 0))))) (.seq (.ops [(.op (some 2) none (.move (.c (.v (.bool false)))))]) .ret)))⟩
theorem cf198 : compFn Try.prog 198 [] = some c198 := by kernel_rfl
def c199 : AFn := ⟨[(.c 2 2 true)], (.seq (.ops [(.op (some 1) none (.box (.t 0))), (.op (some 2) none (.alloc [(.v (.int .i64 0)), (.v (.slice none 0 0))]))]) (.seq (.ops [(.op (some 3) none (.move (.c (.v (.slice none 0 0)))))]) (.seq (.seq (.ops [(.op (some 9) none (.fld 1 (.t 1))), (.op (some 10) none (.load false 1 (.t 9))), (.op (some 11) none (.len .slice (.t 10))), (.op (some 12) none (.move (.c (.v (.int .i64 0)))))]) (.block 0 (.loop (.seq (.ops [(.op (some 13) none (.ibin .lss (.t 12) (.t 11)))]) (.seq (.cond (.t 13) .skip (.exit 0)) (.seq (.block 1 (.seq (.ops [(.op (some 14) none (.idx 2 (.t 10) (.t 12))), (.op (some 15) none (.load true 2 (.t 14))), (.op (some 5) none (.alloc [(.v (.int .i64 0)), (.v (.int .i64 0))])), (.op none none (.store 2 (.t 5) (.t 15)))]) (.ops [(.op (some 16) none (.move (.t 3))), (.op (some 17) none (.load true 2 (.t 5))), (.op (some 18) none (.buildS 2 1 [(.v (.int .i64 0)), (.v (.int .i64 0))] [(0, (2, (.t 17)))])), (.call (some 19) none (.c (.fn (.func 202) [] [])) [(.t 16), (.t 18), (.c (.fn (.func 203) [] [])), (.c (.fn (.func 204) [] []))]), (.op (some 3) none (.move (.t 19)))]))) (.ops [(.op (some 20) none (.ibin .add (.t 12) (.c (.v (.int .i64 1))))), (.op (some 12) none (.move (.t 20)))]))))))) (.seq (.ops [(.op (some 21) none (.fld 0 (.t 1))), (.op (some 22) none (.load false 1 (.t 21))), (.op (some 23) none (.move (.t 3))), (.op (some 24) none (.build [(.v (.int .i64 0)), (.v (.slice none 0 0))] [(0, (1, (.t 22))), (1, (1, (.t 23)))])), (.op (some 6) none (.alloc [(.v (.int .i64 0)), (.v (.slice none 0 0))])), (.op none none (.store 2 (.t 6) (.t 24)))]) (.seq (.seq (.ops [(.op (some 25) none (.move (.t 3))), (.op (some 26) none (.len .slice (.t 25))), (.op (some 27) none (.move (.c (.v (.int .i64 0)))))]) (.block 2 (.loop (.seq (.ops [(.op (some 28) none (.ibin .lss (.t 27) (.t 26)))]) (.seq (.cond (.t 28) .skip (.exit 2)) (.seq (.block 3 (.seq (.ops [(.op (some 29) none (.idx 2 (.t 25) (.t 27))), (.op (some 30) none (.load true 2 (.t 29))), (.op (some 8) none (.alloc [(.v (.int .i64 0)), (.v (.int .i64 0))])), (.op none none (.store 2 (.t 8) (.t 30)))]) (.seq (.ops [(.op (some 31) none (.fld 1 (.t 8))), (.op (some 32) none (.load false 1 (.t 31))), (.op (some 33) none (.fld 0 (.t 6))), (.op (some 34) none (.load false 1 (.t 33))), (.op (some 35) none (.ibin .geq (.t 32) (.t 34)))]) (.cond (.t 35) (.ops [(.op (some 36) none (.fld 0 (.t 6))), (.op none none (.store 1 (.t 36) (.c (.v (.int .i64 0)))))]) .skip)))) (.ops [(.op (some 37) none (.ibin .add (.t 27) (.c (.v (.int .i64 1))))), (.op (some 27) none (.move (.t 37)))]))))))) (.seq (.ops [(.op (some 38) none (.load true 2 (.t 6))), (.op none none (.store 2 (.t 2) (.t 38)))]) .ret))))))⟩
theorem cf199 : compFn Try.prog 199 [] = some c199 := by kernel_rfl
def c200 : AFn := ⟨[(.t 2)], (.seq (.ops [(.op (some 2) none (.move (.c (.v (.bool false)))))]) (.seq (.ops [(.op (some 3) none (.move (.t 0))), (.op (some 4) none (.ibin .geq (.t 3) (.c (.v (.int .i64 0))))), (.op (some 5) none (.move (.t 4))), (.op (some 6) (some (5, true)) (.move (.t 0))), (.op (some 7) (some (5, true)) (.ibin .leq (.t 6) (.c (.v (.int .i64 1000))))), (.op (some 8) none (.pick (.t 5) (.t 7) (.c (.v (.bool false))))), (.op (some 2) none (.move (.t 8)))]) .ret))⟩
theorem cf200 : compFn Try.prog 200 [] = some c200 := by kernel_rfl
def c202 : AFn := ⟨[(.t 8)], (.seq (.ops [(.op (some 8) none (.move (.c (.v (.slice none 0 0)))))]) (.seq (.ops [(.op (some 9) none (.move (.c (.v (.slice none 0 0)))))]) (.seq (.block 0 (.loop (.seq (.seq (.ops [(.op (some 12) none (.move (.t 0))), (.op (some 13) none (.len .slice (.t 12))), (.op (some 14) none (.ibin .gtr (.t 13) (.c (.v (.int .i64 0))))), (.op (some 15) none (.move (.t 14))), (.op (some 16) (some (15, true)) (.move (.t 1))), (.op (some 17) (some (15, true)) (.len .slice (.t 16))), (.op (some 18) (some (15, true)) (.ibin .gtr (.t 17) (.c (.v (.int .i64 0))))), (.op (some 19) none (.pick (.t 15) (.t 18) (.c (.v (.bool false)))))]) (.cond (.t 19) .skip (.exit 0))) (.block 1 (.seq (.draw [⟨(.op (some 20) none (.move (.t 2))), []⟩, ⟨(.op (some 21) none (.move (.t 0))), []⟩, ⟨(.op (some 22) none (.idx 2 (.t 21) (.c (.v (.int .i64 0))))), []⟩, ⟨(.op (some 23) none (.load true 2 (.t 22))), []⟩, ⟨(.op (some 25) none (.move (.t 2))), []⟩, ⟨(.op (some 26) none (.move (.t 1))), []⟩, ⟨(.op (some 27) none (.idx 2 (.t 26) (.c (.v (.int .i64 0))))), []⟩, ⟨(.op (some 28) none (.load true 2 (.t 27))), []⟩, ⟨(.call (some 24) none (.t 20) [(.t 23)]), [4, 5, 6, 7]⟩, ⟨(.call (some 29) none (.t 25) [(.t 28)]), []⟩, ⟨(.op (some 10) none (.move (.t 24))), []⟩, ⟨(.op (some 11) none (.move (.t 29))), []⟩]) (.block 2 (.seq (.ops [(.op (some 46) none (.move (.t 10))), (.op (some 47) none (.move (.t 11))), (.op (some 48) none (.ibin .lss (.t 46) (.t 47))), (.op (some 45) none (.move (.t 48)))]) (.cond (.t 45) (.draw [⟨(.op (some 49) none (.move (.t 9))), []⟩, ⟨(.op (some 50) none (.move (.t 0))), []⟩, ⟨(.op (some 51) none (.idx 2 (.t 50) (.c (.v (.int .i64 0))))), []⟩, ⟨(.op (some 52) none (.load true 2 (.t 51))), []⟩, ⟨(.op (some 53) none (.buildS 2 1 [(.v (.int .i64 0)), (.v (.int .i64 0))] [(0, (2, (.t 52)))])), []⟩, ⟨(.op (some 55) none (.move (.t 0))), []⟩, ⟨(.op (some 56) none (.slice 2 (.t 55) (some (.c (.v (.int .i64 1)))) none none)), []⟩, ⟨(.op (some 54) none (.append 2 16 (.t 49) (.t 53))), [5, 6]⟩, ⟨(.op (some 9) none (.move (.t 54))), []⟩, ⟨(.op (some 0) none (.move (.t 56))), []⟩]) (.seq (.ops [(.op (some 58) none (.move (.t 11))), (.op (some 59) none (.move (.t 10))), (.op (some 60) none (.ibin .lss (.t 58) (.t 59))), (.op (some 57) none (.move (.t 60)))]) (.cond (.t 57) (.draw [⟨(.op (some 61) none (.move (.t 9))), []⟩, ⟨(.op (some 62) none (.move (.t 1))), []⟩, ⟨(.op (some 63) none (.idx 2 (.t 62) (.c (.v (.int .i64 0))))), []⟩, ⟨(.op (some 64) none (.load true 2 (.t 63))), []⟩, ⟨(.op (some 65) none (.buildS 2 1 [(.v (.int .i64 0)), (.v (.int .i64 0))] [(0, (2, (.t 64)))])), []⟩, ⟨(.op (some 67) none (.move (.t 1))), []⟩, ⟨(.op (some 68) none (.slice 2 (.t 67) (some (.c (.v (.int .i64 1)))) none none)), []⟩, ⟨(.op (some 66) none (.append 2 16 (.t 61) (.t 65))), [5, 6]⟩, ⟨(.op (some 9) none (.move (.t 66))), []⟩, ⟨(.op (some 1) none (.move (.t 68))), []⟩]) (.draw [⟨(.op (some 30) none (.move (.t 9))), []⟩, ⟨(.op (some 31) none (.move (.t 3))), []⟩, ⟨(.op (some 32) none (.move (.t 0))), []⟩, ⟨(.op (some 33) none (.idx 2 (.t 32) (.c (.v (.int .i64 0))))), []⟩, ⟨(.op (some 34) none (.load true 2 (.t 33))), []⟩, ⟨(.op (some 35) none (.move (.t 1))), []⟩, ⟨(.op (some 36) none (.idx 2 (.t 35) (.c (.v (.int .i64 0))))), []⟩, ⟨(.op (some 37) none (.load true 2 (.t 36))), []⟩, ⟨(.op (some 41) none (.move (.t 0))), []⟩, ⟨(.op (some 42) none (.slice 2 (.t 41) (some (.c (.v (.int .i64 1)))) none none)), []⟩, ⟨(.op (some 43) none (.move (.t 1))), []⟩, ⟨(.op (some 44) none (.slice 2 (.t 43) (some (.c (.v (.int .i64 1)))) none none)), []⟩, ⟨(.call (some 38) none (.t 31) [(.t 34), (.t 37)]), [0, 8, 9, 10, 11]⟩, ⟨(.op (some 39) none (.buildS 2 1 [(.v (.int .i64 0)), (.v (.int .i64 0))] [(0, (2, (.t 38)))])), []⟩, ⟨(.op (some 40) none (.append 2 16 (.t 30) (.t 39))), [8, 9, 10, 11]⟩, ⟨(.op (some 9) none (.move (.t 40))), []⟩, ⟨(.op (some 0) none (.move (.t 42))), []⟩, ⟨(.op (some 1) none (.move (.t 44))), []⟩]))))))))))) (.seq (.ops [(.op (some 69) none (.move (.t 9))), (.op (some 70) none (.move (.t 0))), (.op (some 71) none (.append 2 16 (.t 69) (.t 70))), (.op (some 72) none (.move (.t 1))), (.op (some 73) none (.append 2 16 (.t 71) (.t 72))), (.op (some 8) none (.move (.t 73)))]) .ret))))⟩
theorem cf202 : compFn Try.prog 202 [(3, [(0, []), (1, []), (2, []), (3, []), (5, []), (6, []), (7, []), (8, []), (4, [4, 5, 6, 7]), (9, []), (10, []), (11, [])]), (6, [(0, []), (1, []), (2, []), (3, []), (4, []), (6, []), (7, []), (5, [5, 6]), (8, []), (9, [])]), (8, [(0, []), (1, []), (2, []), (3, []), (4, []), (6, []), (7, []), (5, [5, 6]), (8, []), (9, [])]), (4, [(0, []), (1, []), (2, []), (3, []), (4, []), (5, []), (6, []), (7, []), (11, []), (12, []), (13, []), (14, []), (8, [0, 8, 9, 10, 11]), (9, []), (10, [8, 9, 10, 11]), (15, []), (16, []), (17, [])])] = some c202 := by kernel_rfl
def c203 : AFn := ⟨[(.t 2)], (.seq (.ops [(.op (some 1) none (.box (.t 0))), (.op (some 2) none (.move (.c (.v (.int .i64 0)))))]) (.seq (.ops [(.op (some 3) none (.fld 0 (.t 1))), (.op (some 4) none (.load false 1 (.t 3))), (.op (some 2) none (.move (.t 4)))]) .ret))⟩
theorem cf203 : compFn Try.prog 203 [] = some c203 := by kernel_rfl
def c204 : AFn := ⟨[(.c 4 2 true)], (.seq (.ops [(.op (some 2) none (.box (.t 0))), (.op (some 3) none (.box (.t 1))), (.op (some 4) none (.alloc [(.v (.int .i64 0)), (.v (.int .i64 0))]))]) (.seq (.seq (.ops [(.op (some 5) none (.fld 1 (.t 2))), (.op (some 6) none (.load false 1 (.t 5))), (.op (some 7) none (.fld 1 (.t 3))), (.op (some 8) none (.load false 1 (.t 7))), (.op (some 9) none (.ibin .lss (.t 6) (.t 8)))]) (.cond (.t 9) (.seq (.ops [(.op (some 10) none (.load true 2 (.t 3))), (.op none none (.store 2 (.t 4) (.t 10)))]) .ret) .skip)) (.seq (.ops [(.op (some 11) none (.load true 2 (.t 2))), (.op none none (.store 2 (.t 4) (.t 11)))]) .ret)))⟩
theorem cf204 : compFn Try.prog 204 [] = some c204 := by kernel_rfl
def c211 : AFn := ⟨[(.t 2)], (.seq (.ops [(.op (some 2) none (.move (.c (.v (.slice none 0 0)))))]) (.seq (.seq (.ops [(.op (some 3) none (.move (.t 0))), (.op (some 4) none (.nbin false .slice (.t 3)))]) (.cond (.t 4) (.seq (.ops [(.op (some 2) none (.move (.c (.v (.slice none 0 0)))))]) .ret) .skip)) (.seq (.ops [(.op (some 5) none (.buildS 2 0 [] [])), (.op (some 6) none (.move (.t 0))), (.op (some 7) none (.append 2 16 (.t 5) (.t 6))), (.op (some 2) none (.move (.t 7)))]) .ret)))⟩
theorem cf211 : compFn Try.prog 211 [] = some c211 := by kernel_rfl
end Go.Proofs.Ytooaiddfokbffaa.E

/- The code of functions, as a table. Conditions: none. -/
namespace Go.Proofs.Ytooaiddfokbffaa.E
open Go Go.Proofs
def tabL : List (Nat × AFn) := [(3, c3), (4, c4), (14, c14), (15, c15), (16, c16), (17, c17), (18, c18), (19, c19), (20, c20), (21, c21), (22, c22), (23, c23), (24, c24), (25, c25), (26, c26), (27, c27), (29, c29), (32, c32), (45, c45), (52, c52), (72, c72), (73, c73), (74, c74), (75, c75), (76, c76), (77, c77), (78, c78), (79, c79), (80, c80), (81, c81), (82, c82), (83, c83), (84, c84), (85, c85), (86, c86), (87, c87), (98, c98), (123, c123), (124, c124), (125, c125), (126, c126), (127, c127), (128, c128), (129, c129), (130, c130), (131, c131), (132, c132), (143, c143), (161, c161), (171, c171), (172, c172), (173, c173), (174, c174), (176, c176), (178, c178), (179, c179), (183, c183), (184, c184), (197, c197), (198, c198), (199, c199), (200, c200), (202, c202), (203, c203), (204, c204), (211, c211)]
def tabAt : List (Nat × AFn) → Nat → Option AFn
  | [], _ => none
  | (i, F) :: r, k => if i = k then some F else tabAt r k
theorem tabAt_spec {Q : Nat → AFn → Prop} : ∀ (l : List (Nat × AFn)), (∀ p ∈ l, Q p.1 p.2) → ∀ k F, tabAt l k = some F → Q k F
  | [], _, _, _, h => by simp [tabAt] at h
  | (i, F') :: r, hl, k, F, h => by
    simp only [tabAt] at h
    split at h
    · rename_i hi
      injection h with h
      subst hi h
      exact hl (i, F') (List.mem_cons_self ..)
    · exact tabAt_spec r (fun p hp => hl p (List.mem_cons_of_mem _ hp)) k F h
theorem tabL_ok : ∀ p ∈ tabL, ∃ pl, compFn Try.prog p.1 pl = some p.2 := by
  intro p hp
  simp only [tabL, List.mem_cons, List.not_mem_nil, or_false] at hp
  rcases hp with rfl | rfl | rfl | rfl | rfl | rfl | rfl | rfl | rfl | rfl | rfl | rfl | rfl | rfl | rfl | rfl | rfl | rfl | rfl | rfl | rfl | rfl | rfl | rfl | rfl | rfl | rfl | rfl | rfl | rfl | rfl | rfl | rfl | rfl | rfl | rfl | rfl | rfl | rfl | rfl | rfl | rfl | rfl | rfl | rfl | rfl | rfl | rfl | rfl | rfl | rfl | rfl | rfl | rfl | rfl | rfl | rfl | rfl | rfl | rfl | rfl | rfl | rfl | rfl | rfl | rfl
  · exact ⟨_, cf3⟩
  · exact ⟨_, cf4⟩
  · exact ⟨_, cf14⟩
  · exact ⟨_, cf15⟩
  · exact ⟨_, cf16⟩
  · exact ⟨_, cf17⟩
  · exact ⟨_, cf18⟩
  · exact ⟨_, cf19⟩
  · exact ⟨_, cf20⟩
  · exact ⟨_, cf21⟩
  · exact ⟨_, cf22⟩
  · exact ⟨_, cf23⟩
  · exact ⟨_, cf24⟩
  · exact ⟨_, cf25⟩
  · exact ⟨_, cf26⟩
  · exact ⟨_, cf27⟩
  · exact ⟨_, cf29⟩
  · exact ⟨_, cf32⟩
  · exact ⟨_, cf45⟩
  · exact ⟨_, cf52⟩
  · exact ⟨_, cf72⟩
  · exact ⟨_, cf73⟩
  · exact ⟨_, cf74⟩
  · exact ⟨_, cf75⟩
  · exact ⟨_, cf76⟩
  · exact ⟨_, cf77⟩
  · exact ⟨_, cf78⟩
  · exact ⟨_, cf79⟩
  · exact ⟨_, cf80⟩
  · exact ⟨_, cf81⟩
  · exact ⟨_, cf82⟩
  · exact ⟨_, cf83⟩
  · exact ⟨_, cf84⟩
  · exact ⟨_, cf85⟩
  · exact ⟨_, cf86⟩
  · exact ⟨_, cf87⟩
  · exact ⟨_, cf98⟩
  · exact ⟨_, cf123⟩
  · exact ⟨_, cf124⟩
  · exact ⟨_, cf125⟩
  · exact ⟨_, cf126⟩
  · exact ⟨_, cf127⟩
  · exact ⟨_, cf128⟩
  · exact ⟨_, cf129⟩
  · exact ⟨_, cf130⟩
  · exact ⟨_, cf131⟩
  · exact ⟨_, cf132⟩
  · exact ⟨_, cf143⟩
  · exact ⟨_, cf161⟩
  · exact ⟨_, cf171⟩
  · exact ⟨_, cf172⟩
  · exact ⟨_, cf173⟩
  · exact ⟨_, cf174⟩
  · exact ⟨_, cf176⟩
  · exact ⟨_, cf178⟩
  · exact ⟨_, cf179⟩
  · exact ⟨_, cf183⟩
  · exact ⟨_, cf184⟩
  · exact ⟨_, cf197⟩
  · exact ⟨_, cf198⟩
  · exact ⟨_, cf199⟩
  · exact ⟨_, cf200⟩
  · exact ⟨_, cf202⟩
  · exact ⟨_, cf203⟩
  · exact ⟨_, cf204⟩
  · exact ⟨_, cf211⟩
end Go.Proofs.Ytooaiddfokbffaa.E

/- Whether a term is not too long nor too high, as the code asks it. Conditions: none. -/
set_option linter.unusedVariables false
set_option linter.unusedSimpArgs false
namespace Go.Proofs.Ytooaiddfokbffaa.E
open Go Go.Proofs
attribute [local go_sem] s_seq s_ops s_draw s_block s_skip s_ret s_exit i_nil i_cons i_run i_runG s_condQ c_true c_false aop ev_t ev_c updO_at updO_no upd_at t_normal t_ret t_exit b_normal b_ret b_exit a_some ac_v ac_agg ac_ptr ac_slc ac_ro ac_rop ac_fn new_next set_next argTm_zero argTm_succ argTm_nil ab_bool ab_uv beq_self_eq_true Option.some_beq_some Bool.not_not beq_iff_eq decide_true decide_false Bool.not_true Bool.not_false afld aload astore apack alen_str alen_ro alen_slc alen_nil new_get set_get ite_true ite_false Option.map_some Option.bind_some ibin isShift Nat.add_zero Nat.zero_add List.length_cons List.length_nil List.drop_zero List.drop_succ_cons List.take_succ_cons List.take_zero if_true if_false setL List.set_cons_zero List.set_cons_succ List.all_cons List.all_nil one_int one_bool one_str one_nil one_ptr one_slc one_ro one_rop one_fn Bool.and_self Bool.and_true true_and and_true and_self Bool.false_eq_true post_ret post_normal resAll resOne packR Option.some.injEq exists_eq_left' List.map_cons List.map_nil List.nil_append List.append_nil List.cons_append d_nil d_cons k_nil k_cons g_op g_same g_new avBlock forall_eq' List.getElem?_cons_succ List.getElem?_cons_zero List.getElem?_nil okind gOk bne false_imp_iff forall_const imp_self implies_true true_imp_iff i_callG

theorem mixed : Try.prog.follows .mixedOrders = true := by kernel_rfl

theorem i64_ok (n : Int) (h : -9223372036854775808 ≤ n ∧ n ≤ 9223372036854775807) : IntKind.i64.wrap n = n := by rw [IntKind.wrap_i64]; omega

mutual
theorem Tm.rule {p : Tm → Prop} (h : ∀ f n hd s lv ks, (∀ k ∈ ks, p k) → p (.mk f n hd s lv ks)) : ∀ t, p t
  | .mk f n hd s lv ks => h f n hd s lv ks (Tm.ruleL h ks)
theorem Tm.ruleL {p : Tm → Prop} (h : ∀ f n hd s lv ks, (∀ k ∈ ks, p k) → p (.mk f n hd s lv ks)) : ∀ (ks : List Tm), ∀ k ∈ ks, p k
  | [] => fun k hk => by cases hk
  | k0 :: ks => fun k hk => by
    rcases List.mem_cons.1 hk with hk | hk
    · rw [hk]; exact Tm.rule h k0
    · exact Tm.ruleL h ks k hk
end

theorem fit_bound : ∀ t, ∀ c high, (fitT c high t).1 = true → c < (fitT c high t).2 ∧ (fitT c high t).2 ≤ 20000 := by
  refine Tm.rule fun f n hd s lv ks ih c high h => ?_
  simp only [fitT] at h ⊢
  split at h
  · cases h
  · rename_i hno
    rw [if_neg hno]
    have hk : ∀ (ks' : List Tm), (∀ k ∈ ks', k ∈ ks) → ∀ c', c' ≤ 20000 → (fitK c' (high + 1) ks').1 = true → c' ≤ (fitK c' (high + 1) ks').2 ∧ (fitK c' (high + 1) ks').2 ≤ 20000 := by
      intro ks'
      induction ks' with
      | nil => intro _ c' hc' _; simp only [fitK]; omega
      | cons k ks' ih' =>
        intro hm c' hc' h
        simp only [fitK] at h ⊢
        split at h
        · rename_i h1
          rw [if_pos h1]
          obtain ⟨h2, h3⟩ := ih k (hm k (List.mem_cons_self ..)) c' (high + 1) h1
          obtain ⟨h4, h5⟩ := ih' (fun k hk => hm k (List.mem_cons_of_mem _ hk)) _ h3 h
          omega
        · cases h
    obtain ⟨h1, h2⟩ := hk ks (fun _ h => h) (c + 1) (by omega) h
    omega

set_option maxRecDepth 100000 in
theorem fits_ok : ∀ t, ∀ (cells : List AV), TmR t cells → ∀ (c high : Int), 0 ≤ c ∧ c ≤ 20000 → 0 ≤ high ∧ high ≤ 501 → ∀ (H : AHeap) (b : Nat), H.get b = some (.cells [aint c]) → b < H.next →
    SCall Try.prog 81 [.ptr b 0, .agg cells, aint high] H fun x H' => x = abl (fitT c high t).1 ∧ H' = H.set b (.cells [aint (fitT c high t).2]) := by
  refine Tm.rule fun f n hid s lv ks ih cells hT c high hc hh H b hb hbn => ?_
  simp only [TmR] at hT
  obtain ⟨lx, kx, ls, cs, rfl, hlx, hls, hkx, hks⟩ := hT
  have hne : b ≠ H.next := Nat.ne_of_lt hbn
  have hne' : ¬ H.next = b := fun h => hne h.symm
  have w1 : IntKind.i64.wrap (c + 1) = c + 1 := i64_ok _ (by omega)
  have main : SCall Try.prog 81 [.ptr b 0, .agg [aint f, aint n, abl hid, .v (.string s), lx, kx], aint high] H fun x H' => x = abl (fitT c high (.mk f n hid s lv ks)).1 ∧ H.next ≤ H'.next ∧
      ∀ b', b' < H.next → H'.get b' = (H.set b (.cells [aint (fitT c high (.mk f n hid s lv ks)).2])).get b' := by
    refine SCall.intro mixed cf81 ?_
    by_cases h1 : c + 1 > 20000
    · simp -implicitDefEqProofs only [c81, go_sem, Nat.reduceEqDiff, Nat.reduceAdd, Nat.reduceLeDiff, ↓reduceIte, reduceCtorEq, Int.reduceBEq, Int.reduceBNe, Int.reduceLT, Int.reduceLE, Int.reduceGT, Int.reduceGE, Int.reduceNeg, Int.reduceAdd, Int.reduceSub, Nat.reduceMul, Nat.reduceLT, Int.reduceToNat, hb, hne, hne', w1, h1, fitT, true_or]
      refine ⟨Nat.le_succ _, fun b' hb' => ?_⟩
      simp only [Nat.ne_of_lt hb', if_false]
    by_cases h2 : high > 500
    · simp -implicitDefEqProofs only [c81, go_sem, Nat.reduceEqDiff, Nat.reduceAdd, Nat.reduceLeDiff, ↓reduceIte, reduceCtorEq, Int.reduceBEq, Int.reduceBNe, Int.reduceLT, Int.reduceLE, Int.reduceGT, Int.reduceGE, Int.reduceNeg, Int.reduceAdd, Int.reduceSub, Nat.reduceMul, Nat.reduceLT, Int.reduceToNat, hb, hne, hne', w1, h1, h2, fitT, or_true]
      refine ⟨Nat.le_succ _, fun b' hb' => ?_⟩
      simp only [Nat.ne_of_lt hb', if_false]
    have hlen := fun H => hkx.alen H
    have hone := hkx.one
    have hcl := hkx.cells
    simp -implicitDefEqProofs only [c81, go_sem, Nat.reduceEqDiff, Nat.reduceAdd, Nat.reduceLeDiff, ↓reduceIte, reduceCtorEq, Int.reduceBEq, Int.reduceBNe, Int.reduceLT, Int.reduceLE, Int.reduceGT, Int.reduceGE, Int.reduceNeg, Int.reduceAdd, Int.reduceSub, Nat.reduceMul, Nat.reduceLT, Int.reduceToNat, hb, hne, hne', w1, h1, h2, fitT, or_self, hlen, hone, hcl]
    refine swp_loop (fun k st => ∃ (i : Nat) (ci : Int), k = ks.length - i ∧ i ≤ ks.length ∧ (i : Int) ≤ ci ∧ ci ≤ 20000 ∧ st.tm 0 = .ptr b 0 ∧ st.tm 2 = aint high ∧ st.tm 26 = kx ∧ st.tm 27 = aint ks.length ∧ st.tm 28 = aint i ∧
      H.next ≤ st.heap.next ∧ (∀ b', b' < H.next → st.heap.get b' = if b' = b then some (.cells [aint ci]) else H.get b') ∧ fitK (c + 1) (high + 1) ks = fitK ci (high + 1) (ks.drop i)) (k := ks.length) ⟨0, c + 1, ?_⟩ ?_
    · refine ⟨by omega, by omega, by omega, by omega, ?_, ?_, ?_, ?_, ?_, ?_, ?_, by simp⟩
      all_goals simp -implicitDefEqProofs only [go_sem, Nat.reduceEqDiff, Nat.reduceAdd, Nat.reduceLeDiff, ↓reduceIte, reduceCtorEq, Int.reduceBEq, Int.reduceBNe, Int.reduceLT, Int.reduceLE, Int.reduceGT, Int.reduceGE, Int.reduceNeg, Int.reduceAdd, Int.reduceSub, Nat.reduceMul, Nat.reduceLT, Int.reduceToNat]
      · rfl
      · exact Nat.le_succ _
      · intro b' hb'
        simp only [Nat.ne_of_lt hb', if_false]
    rintro k ⟨tm, H2⟩ ⟨i, ci, rfl, hi, hic, hci, h0, h2', h26, h27, h28, hnx, hget, hfit⟩
    simp only at h0 h2' h26 h27 h28 hnx hget
    have hb2 : H2.get b = some (.cells [aint ci]) := by rw [hget b hbn, if_pos rfl]
    by_cases hlt : i < ks.length
    · obtain ⟨kc, hkc, hle, hld⟩ := hks.load (List.getElem?_eq_getElem hlt)
      have hix := hkx.aix 6 hlt
      have hdrop : ks.drop i = ks[i] :: ks.drop (i + 1) := List.drop_eq_getElem_cons hlt
      obtain ⟨lx1, kx1, ls1, cs1, hkc6, hl1, hl2, hl3, hl4⟩ := hkc.six
      have hltI : (i : Int) < (ks.length : Int) := by omega
      have w2 : IntKind.i64.wrap (high + 1) = high + 1 := i64_ok _ (by omega)
      have w3 : IntKind.i64.wrap ((i : Int) + 1) = (i : Int) + 1 := i64_ok _ (by omega)
      subst hkc6
      simp -implicitDefEqProofs only [go_sem, Nat.reduceEqDiff, Nat.reduceAdd, Nat.reduceLeDiff, ↓reduceIte, reduceCtorEq, Int.reduceBEq, Int.reduceBNe, Int.reduceLT, Int.reduceLE, Int.reduceGT, Int.reduceGE, Int.reduceNeg, Int.reduceAdd, Int.reduceSub, Nat.reduceMul, Nat.reduceLT, Int.reduceToNat, h0, h2', h26, h27, h28, hltI, hix, hle, hld, hl1.one, hl3.one, hl1.cells, hl3.cells, w2]
      have hbh : b < H2.next := by omega
      have hbe : ¬ b = H2.next := by omega
      refine i_callA (fs := []) (cs := []) ?_ ?_ (ih ks[i] (List.getElem_mem hlt) _ hkc ci (high + 1) (by omega) (by omega) _ b ?_ ?_) ?_
      · rfl
      · simp -implicitDefEqProofs only [go_sem, Nat.reduceEqDiff, Nat.reduceAdd, Nat.reduceLeDiff, ↓reduceIte, reduceCtorEq, Int.reduceBEq, Int.reduceBNe, Int.reduceLT, Int.reduceLE, Int.reduceGT, Int.reduceGE, Int.reduceNeg, Int.reduceAdd, Int.reduceSub, Nat.reduceMul, Nat.reduceLT, Int.reduceToNat, h0, h2', w2]
      · simp only [set_get, new_get, hbe, if_false, hb2]
      · rw [set_next, new_next]; omega
      · rintro x H3 ⟨rfl, rfl⟩
        cases hf1 : (fitT ci (high + 1) ks[i]).1 with
        | true =>
          obtain ⟨hb3, hb4⟩ := fit_bound _ _ _ hf1
          have w3 : IntKind.i64.wrap ((i : Int) + 1) = (i : Int) + 1 := i64_ok _ (by omega)
          simp -implicitDefEqProofs only [go_sem, Nat.reduceEqDiff, Nat.reduceAdd, Nat.reduceLeDiff, ↓reduceIte, reduceCtorEq, Int.reduceBEq, Int.reduceBNe, Int.reduceLT, Int.reduceLE, Int.reduceGT, Int.reduceGE, Int.reduceNeg, Int.reduceAdd, Int.reduceSub, Nat.reduceMul, Nat.reduceLT, Int.reduceToNat, h28, w3]
          refine ⟨ks.length - (i + 1), by omega, i + 1, (fitT ci (high + 1) ks[i]).2, rfl, by omega, by omega, hb4, h0, h2', h26, h27, by simp, by omega, fun b' hb' => ?_, ?_⟩
          · have e1 : ¬ b' = H2.next := by omega
            simp only [e1, if_false]
            by_cases e2 : b' = b
            · rw [if_pos e2, if_pos e2]
            · rw [if_neg e2, if_neg e2, hget b' hb', if_neg e2]
          · rw [hfit, hdrop]
            simp only [fitK, hf1, if_true]
        | false =>
          simp -implicitDefEqProofs only [go_sem, Nat.reduceEqDiff, Nat.reduceAdd, Nat.reduceLeDiff, ↓reduceIte, reduceCtorEq, Int.reduceBEq, Int.reduceBNe, Int.reduceLT, Int.reduceLE, Int.reduceGT, Int.reduceGE, Int.reduceNeg, Int.reduceAdd, Int.reduceSub, Nat.reduceMul, Nat.reduceLT, Int.reduceToNat]
          have hr : fitK (c + 1) (high + 1) ks = (false, (fitT ci (high + 1) ks[i]).2) := by
            rw [hfit, hdrop]
            simp only [fitK, hf1, Bool.false_eq_true, if_false]
          rw [hr]
          refine ⟨rfl, by omega, fun b' hb' => ?_⟩
          have e1 : ¬ b' = H2.next := by omega
          simp only [e1, if_false]
          by_cases e2 : b' = b
          · rw [if_pos e2, if_pos e2]
          · rw [if_neg e2, if_neg e2, hget b' hb', if_neg e2]
    · have hir : i = ks.length := by omega
      have hltI : ¬ (i : Int) < (ks.length : Int) := by omega
      have hr : fitK (c + 1) (high + 1) ks = (true, ci) := by
        rw [hfit, hir, List.drop_length]
        rfl
      simp -implicitDefEqProofs only [go_sem, Nat.reduceEqDiff, Nat.reduceAdd, Nat.reduceLeDiff, ↓reduceIte, reduceCtorEq, Int.reduceBEq, Int.reduceBNe, Int.reduceLT, Int.reduceLE, Int.reduceGT, Int.reduceGE, Int.reduceNeg, Int.reduceAdd, Int.reduceSub, Nat.reduceMul, Nat.reduceLT, Int.reduceToNat, h27, h28, hltI, hr]
      exact ⟨hnx, fun b' hb' => hget b' hb'⟩
  refine (main.cutTo (H.set b (.cells [aint (fitT c high (.mk f n hid s lv ks)).2])) rfl ?_ ?_).mono ?_
  · intro hw b' o hg
    rw [set_get] at hg
    split at hg
    · rename_i hbb; rw [hbb]; exact hbn
    · exact hw b' o hg
  · rintro _ x H' ⟨rfl, h1, h2⟩
    refine ⟨h1, .v _, h2, fun b' hb' o hg => ?_⟩
    rw [set_get] at hg
    split at hg
    · injection hg with hg
      subst hg
      exact .inr (.cells _ fun x hx => by simp only [List.mem_cons, List.not_mem_nil, or_false] at hx; subst hx; exact .v _)
    · exact .inl hg
  · rintro x H' ⟨⟨_, rfl, _⟩, rfl⟩
    exact ⟨rfl, rfl⟩
end Go.Proofs.Ytooaiddfokbffaa.E

/- Whether a term's parts have their forms, as the code asks it. Conditions: none. -/
set_option linter.unusedVariables false
set_option linter.unusedSimpArgs false
namespace Go.Proofs.Ytooaiddfokbffaa.E
open Go Go.Proofs
attribute [local go_sem] s_seq s_ops s_draw s_block s_skip s_ret s_exit i_nil i_cons i_run i_runG s_condQ c_true c_false aop ev_t ev_c updO_at updO_no upd_at t_normal t_ret t_exit b_normal b_ret b_exit a_some ac_v ac_agg ac_ptr ac_slc ac_ro ac_rop ac_fn new_next set_next argTm_zero argTm_succ argTm_nil ab_bool ab_uv beq_self_eq_true Option.some_beq_some Bool.not_not beq_iff_eq decide_true decide_false Bool.not_true Bool.not_false afld aload astore apack alen_str alen_ro alen_slc alen_nil new_get set_get ite_true ite_false Option.map_some Option.bind_some ibin isShift Nat.add_zero Nat.zero_add List.length_cons List.length_nil List.drop_zero List.drop_succ_cons List.take_succ_cons List.take_zero if_true if_false setL List.set_cons_zero List.set_cons_succ List.all_cons List.all_nil one_int one_bool one_str one_nil one_ptr one_slc one_ro one_rop one_fn Bool.and_self Bool.and_true true_and and_true and_self Bool.false_eq_true post_ret post_normal resAll resOne packR Option.some.injEq exists_eq_left' List.map_cons List.map_nil List.nil_append List.append_nil List.cons_append d_nil d_cons k_nil k_cons g_op g_same g_new avBlock forall_eq' List.getElem?_cons_succ List.getElem?_cons_zero List.getElem?_nil okind gOk bne false_imp_iff forall_const imp_self implies_true true_imp_iff i_callG

def kidsF (f : Int) : Int := if f = 1 then 0 else if f = 2 then 0 else if f = 10 then 0 else if f = 11 then 0 else if f = 8 then 1 else if f = 9 then 1 else if f = 7 then 3 else if f = 3 then 2 else if f = 4 then 2 else if f = 5 then 2 else if f = 6 then 2 else -1

theorem bne_of {a b : Int} (h : ¬ a = b) : (a == b) = false := by simpa using h

set_option maxRecDepth 100000 in
theorem kids_ok (f : Int) (H : AHeap) : SCall Try.prog 128 [aint f] H fun x H' => x = aint (kidsF f) ∧ H' = H := by
  refine SCall.intro mixed cf128 ?_
  by_cases e1 : f = 1
  · subst e1; simp -implicitDefEqProofs only [c128, go_sem, Nat.reduceEqDiff, Nat.reduceAdd, Nat.reduceLeDiff, ↓reduceIte, reduceCtorEq, Int.reduceBEq, Int.reduceBNe, Int.reduceLT, Int.reduceLE, Int.reduceGT, Int.reduceGE, Int.reduceNeg, Int.reduceAdd, Int.reduceSub, Nat.reduceMul, Nat.reduceLT, Int.reduceToNat]; rfl
  by_cases e2 : f = 2
  · subst e2; simp -implicitDefEqProofs only [c128, go_sem, Nat.reduceEqDiff, Nat.reduceAdd, Nat.reduceLeDiff, ↓reduceIte, reduceCtorEq, Int.reduceBEq, Int.reduceBNe, Int.reduceLT, Int.reduceLE, Int.reduceGT, Int.reduceGE, Int.reduceNeg, Int.reduceAdd, Int.reduceSub, Nat.reduceMul, Nat.reduceLT, Int.reduceToNat]; rfl
  by_cases e3 : f = 10
  · subst e3; simp -implicitDefEqProofs only [c128, go_sem, Nat.reduceEqDiff, Nat.reduceAdd, Nat.reduceLeDiff, ↓reduceIte, reduceCtorEq, Int.reduceBEq, Int.reduceBNe, Int.reduceLT, Int.reduceLE, Int.reduceGT, Int.reduceGE, Int.reduceNeg, Int.reduceAdd, Int.reduceSub, Nat.reduceMul, Nat.reduceLT, Int.reduceToNat]; rfl
  by_cases e4 : f = 11
  · subst e4; simp -implicitDefEqProofs only [c128, go_sem, Nat.reduceEqDiff, Nat.reduceAdd, Nat.reduceLeDiff, ↓reduceIte, reduceCtorEq, Int.reduceBEq, Int.reduceBNe, Int.reduceLT, Int.reduceLE, Int.reduceGT, Int.reduceGE, Int.reduceNeg, Int.reduceAdd, Int.reduceSub, Nat.reduceMul, Nat.reduceLT, Int.reduceToNat]; rfl
  by_cases e5 : f = 8
  · subst e5; simp -implicitDefEqProofs only [c128, go_sem, Nat.reduceEqDiff, Nat.reduceAdd, Nat.reduceLeDiff, ↓reduceIte, reduceCtorEq, Int.reduceBEq, Int.reduceBNe, Int.reduceLT, Int.reduceLE, Int.reduceGT, Int.reduceGE, Int.reduceNeg, Int.reduceAdd, Int.reduceSub, Nat.reduceMul, Nat.reduceLT, Int.reduceToNat]; rfl
  by_cases e6 : f = 9
  · subst e6; simp -implicitDefEqProofs only [c128, go_sem, Nat.reduceEqDiff, Nat.reduceAdd, Nat.reduceLeDiff, ↓reduceIte, reduceCtorEq, Int.reduceBEq, Int.reduceBNe, Int.reduceLT, Int.reduceLE, Int.reduceGT, Int.reduceGE, Int.reduceNeg, Int.reduceAdd, Int.reduceSub, Nat.reduceMul, Nat.reduceLT, Int.reduceToNat]; rfl
  by_cases e7 : f = 7
  · subst e7; simp -implicitDefEqProofs only [c128, go_sem, Nat.reduceEqDiff, Nat.reduceAdd, Nat.reduceLeDiff, ↓reduceIte, reduceCtorEq, Int.reduceBEq, Int.reduceBNe, Int.reduceLT, Int.reduceLE, Int.reduceGT, Int.reduceGE, Int.reduceNeg, Int.reduceAdd, Int.reduceSub, Nat.reduceMul, Nat.reduceLT, Int.reduceToNat]; rfl
  by_cases e8 : f = 3
  · subst e8; simp -implicitDefEqProofs only [c128, go_sem, Nat.reduceEqDiff, Nat.reduceAdd, Nat.reduceLeDiff, ↓reduceIte, reduceCtorEq, Int.reduceBEq, Int.reduceBNe, Int.reduceLT, Int.reduceLE, Int.reduceGT, Int.reduceGE, Int.reduceNeg, Int.reduceAdd, Int.reduceSub, Nat.reduceMul, Nat.reduceLT, Int.reduceToNat]; rfl
  by_cases e9 : f = 4
  · subst e9; simp -implicitDefEqProofs only [c128, go_sem, Nat.reduceEqDiff, Nat.reduceAdd, Nat.reduceLeDiff, ↓reduceIte, reduceCtorEq, Int.reduceBEq, Int.reduceBNe, Int.reduceLT, Int.reduceLE, Int.reduceGT, Int.reduceGE, Int.reduceNeg, Int.reduceAdd, Int.reduceSub, Nat.reduceMul, Nat.reduceLT, Int.reduceToNat]; rfl
  by_cases e10 : f = 5
  · subst e10; simp -implicitDefEqProofs only [c128, go_sem, Nat.reduceEqDiff, Nat.reduceAdd, Nat.reduceLeDiff, ↓reduceIte, reduceCtorEq, Int.reduceBEq, Int.reduceBNe, Int.reduceLT, Int.reduceLE, Int.reduceGT, Int.reduceGE, Int.reduceNeg, Int.reduceAdd, Int.reduceSub, Nat.reduceMul, Nat.reduceLT, Int.reduceToNat]; rfl
  by_cases e11 : f = 6
  · subst e11; simp -implicitDefEqProofs only [c128, go_sem, Nat.reduceEqDiff, Nat.reduceAdd, Nat.reduceLeDiff, ↓reduceIte, reduceCtorEq, Int.reduceBEq, Int.reduceBNe, Int.reduceLT, Int.reduceLE, Int.reduceGT, Int.reduceGE, Int.reduceNeg, Int.reduceAdd, Int.reduceSub, Nat.reduceMul, Nat.reduceLT, Int.reduceToNat]; rfl
  simp -implicitDefEqProofs only [c128, go_sem, Nat.reduceEqDiff, Nat.reduceAdd, Nat.reduceLeDiff, ↓reduceIte, reduceCtorEq, Int.reduceBEq, Int.reduceBNe, Int.reduceLT, Int.reduceLE, Int.reduceGT, Int.reduceGE, Int.reduceNeg, Int.reduceAdd, Int.reduceSub, Nat.reduceMul, Nat.reduceLT, Int.reduceToNat, bne_of e1, bne_of e2, bne_of e3, bne_of e4, bne_of e5, bne_of e6, bne_of e7, bne_of e8, bne_of e9, bne_of e10, bne_of e11]
  simp only [kidsF, e1, e2, e3, e4, e5, e6, e7, e8, e9, e10, e11, if_false]

/-- The code tells whether a level is canonical. -/
def CanSpec (r : Lv → Bool) (l : Lv) : Prop := ∀ (vx : AV) (vs : List AV) (H : AHeap), SlR l.vars.length vx vs → VarsR l.vars vs → SCall Try.prog 173 [.agg [aint l.n, vx]] H fun x H' => x = abl (r l) ∧ H' = H

set_option maxRecDepth 100000 in
theorem levels_ok (r : Lv → Bool) (lv : List Lv) (lx : AV) (ls : List AV) (h1 : SlR lv.length lx ls) (h2 : LvsR lv ls) (hn : lv.length ≤ 4611686018427387904) (hc : ∀ l ∈ lv, CanSpec r l) (H : AHeap) :
    SCall Try.prog 129 [lx] H fun x H' => x = abl (lv.all r) ∧ H' = H := by
  refine SCall.val (SCall.intro mixed cf129 ?_)
  simp -implicitDefEqProofs only [c129, go_sem, Nat.reduceEqDiff, Nat.reduceAdd, Nat.reduceLeDiff, ↓reduceIte, reduceCtorEq, Int.reduceBEq, Int.reduceBNe, Int.reduceLT, Int.reduceLE, Int.reduceGT, Int.reduceGE, Int.reduceNeg, Int.reduceAdd, Int.reduceSub, Nat.reduceMul, Nat.reduceLT, Int.reduceToNat, fun H => h1.alen H]
  refine swp_loop (fun k st => ∃ (i : Nat), k = lv.length - i ∧ i ≤ lv.length ∧ st.tm 5 = lx ∧ st.tm 6 = aint lv.length ∧ st.tm 7 = aint i ∧ Ext H st.heap ∧ lv.all r = (lv.drop i).all r) (k := lv.length) ⟨0, ?_⟩ ?_
  · refine ⟨by omega, by omega, rfl, rfl, rfl, ⟨Nat.le_refl _, fun _ _ => rfl⟩, by simp⟩
  rintro k ⟨tm, H2⟩ ⟨i, rfl, hi, h5, h6, h7, ⟨hx1, hx2⟩, hr⟩
  simp only at h5 h6 h7 hx1 hx2
  by_cases hlt : i < lv.length
  · obtain ⟨vx, vs, hle, hld, hv1, hv2⟩ := h2.at (List.getElem?_eq_getElem hlt)
    have hix := h1.aix 2 hlt
    have hltI : (i : Int) < (lv.length : Int) := by omega
    have w3 : IntKind.i64.wrap ((i : Int) + 1) = (i : Int) + 1 := i64_ok _ (by omega)
    have hdrop : lv.drop i = lv[i] :: lv.drop (i + 1) := List.drop_eq_getElem_cons hlt
    simp -implicitDefEqProofs only [go_sem, Nat.reduceEqDiff, Nat.reduceAdd, Nat.reduceLeDiff, ↓reduceIte, reduceCtorEq, Int.reduceBEq, Int.reduceBNe, Int.reduceLT, Int.reduceLE, Int.reduceGT, Int.reduceGE, Int.reduceNeg, Int.reduceAdd, Int.reduceSub, Nat.reduceMul, Nat.reduceLT, Int.reduceToNat, h5, h6, h7, hltI, hix, hle, hld, hv1.one, hv1.cells]
    refine i_callA (fs := []) (cs := []) ?_ ?_ (hc lv[i] (List.getElem_mem hlt) vx vs _ hv1 hv2) ?_
    · rfl
    · simp -implicitDefEqProofs only [go_sem, Nat.reduceEqDiff, Nat.reduceAdd, Nat.reduceLeDiff, ↓reduceIte, reduceCtorEq, Int.reduceBEq, Int.reduceBNe, Int.reduceLT, Int.reduceLE, Int.reduceGT, Int.reduceGE, Int.reduceNeg, Int.reduceAdd, Int.reduceSub, Nat.reduceMul, Nat.reduceLT, Int.reduceToNat]
    · rintro x H3 ⟨rfl, rfl⟩
      cases hf : r lv[i] with
      | true =>
        simp -implicitDefEqProofs only [go_sem, Nat.reduceEqDiff, Nat.reduceAdd, Nat.reduceLeDiff, ↓reduceIte, reduceCtorEq, Int.reduceBEq, Int.reduceBNe, Int.reduceLT, Int.reduceLE, Int.reduceGT, Int.reduceGE, Int.reduceNeg, Int.reduceAdd, Int.reduceSub, Nat.reduceMul, Nat.reduceLT, Int.reduceToNat, h7, w3]
        refine ⟨lv.length - (i + 1), by omega, i + 1, rfl, by omega, h5, h6, by simp, ⟨?_, fun b hb => ?_⟩, ?_⟩
        · simp -implicitDefEqProofs only [go_sem, Nat.reduceEqDiff, Nat.reduceAdd, Nat.reduceLeDiff, ↓reduceIte, reduceCtorEq, Int.reduceBEq, Int.reduceBNe, Int.reduceLT, Int.reduceLE, Int.reduceGT, Int.reduceGE, Int.reduceNeg, Int.reduceAdd, Int.reduceSub, Nat.reduceMul, Nat.reduceLT, Int.reduceToNat]; omega
        · have e1 : ¬ b = H2.next := by omega
          simp -implicitDefEqProofs only [go_sem, Nat.reduceEqDiff, Nat.reduceAdd, Nat.reduceLeDiff, ↓reduceIte, reduceCtorEq, Int.reduceBEq, Int.reduceBNe, Int.reduceLT, Int.reduceLE, Int.reduceGT, Int.reduceGE, Int.reduceNeg, Int.reduceAdd, Int.reduceSub, Nat.reduceMul, Nat.reduceLT, Int.reduceToNat, e1]
          exact hx2 b hb
        · rw [hr, hdrop, List.all_cons, hf, Bool.true_and]
      | false =>
        simp -implicitDefEqProofs only [go_sem, Nat.reduceEqDiff, Nat.reduceAdd, Nat.reduceLeDiff, ↓reduceIte, reduceCtorEq, Int.reduceBEq, Int.reduceBNe, Int.reduceLT, Int.reduceLE, Int.reduceGT, Int.reduceGE, Int.reduceNeg, Int.reduceAdd, Int.reduceSub, Nat.reduceMul, Nat.reduceLT, Int.reduceToNat]
        refine ⟨?_, ?_, fun b hb => ?_⟩
        · rw [hr, hdrop, List.all_cons, hf]; rfl
        · simp -implicitDefEqProofs only [go_sem, Nat.reduceEqDiff, Nat.reduceAdd, Nat.reduceLeDiff, ↓reduceIte, reduceCtorEq, Int.reduceBEq, Int.reduceBNe, Int.reduceLT, Int.reduceLE, Int.reduceGT, Int.reduceGE, Int.reduceNeg, Int.reduceAdd, Int.reduceSub, Nat.reduceMul, Nat.reduceLT, Int.reduceToNat]; omega
        · have e1 : ¬ b = H2.next := by omega
          simp -implicitDefEqProofs only [go_sem, Nat.reduceEqDiff, Nat.reduceAdd, Nat.reduceLeDiff, ↓reduceIte, reduceCtorEq, Int.reduceBEq, Int.reduceBNe, Int.reduceLT, Int.reduceLE, Int.reduceGT, Int.reduceGE, Int.reduceNeg, Int.reduceAdd, Int.reduceSub, Nat.reduceMul, Nat.reduceLT, Int.reduceToNat, e1]
          exact hx2 b hb
  · have hir : i = lv.length := by omega
    have hltI : ¬ (i : Int) < (lv.length : Int) := by omega
    simp -implicitDefEqProofs only [go_sem, Nat.reduceEqDiff, Nat.reduceAdd, Nat.reduceLeDiff, ↓reduceIte, reduceCtorEq, Int.reduceBEq, Int.reduceBNe, Int.reduceLT, Int.reduceLE, Int.reduceGT, Int.reduceGE, Int.reduceNeg, Int.reduceAdd, Int.reduceSub, Nat.reduceMul, Nat.reduceLT, Int.reduceToNat, h6, h7, hltI]
    refine ⟨?_, hx1, hx2⟩
    rw [hr, hir, List.drop_length]
    rfl

def headIs (n : Int) : List Tm → Bool
  | k :: _ => k.form == n
  | [] => false

def formF (r : Lv → Bool) (t : Tm) : Bool :=
  if kidsF t.form ≠ (t.kids.length : Int) then false
  else if t.form = 1 ∨ t.form = 11 then decide (t.n ≥ 0) && decide (t.n ≤ 1073741824)
  else if t.form = 7 then headIs 6 t.kids
  else if t.form = 2 then ((t.lv.length : Int) == 1) && t.lv.all r
  else if t.form = 10 then !(t.name.data.toList == []) && decide ((t.name.size : Int) ≤ 60) && t.lv.all r
  else true

theorem ext_new (H : AHeap) (o : AObj) : Ext H (H.new o) := ⟨Nat.le_succ _, fun b hb => by rw [new_get, if_neg (Nat.ne_of_lt hb)]⟩

set_option maxRecDepth 100000 in
theorem formed_ok (r : Lv → Bool) (t : Tm) (cells : List AV) (hT : TmR t cells) (hn : t.lv.length ≤ 4611686018427387904) (hc : ∀ l ∈ t.lv, CanSpec r l) (H : AHeap) :
    SCall Try.prog 84 [.agg cells] H fun x H' => x = abl (formF r t) ∧ H' = H := by
  refine SCall.val (SCall.intro mixed cf84 ?_)
  obtain ⟨f, n, hid, s, lv, ks⟩ := t
  obtain ⟨lx, kx, ls, cs, rfl, hl1, hl2, hk1, hk2⟩ := hT.six
  simp only [Tm.form, Tm.n, Tm.hid, Tm.name, Tm.lv, Tm.kids] at *
  have w1 := fun H => hk1.alen H
  have w2 := fun H => hl1.alen H
  simp -implicitDefEqProofs only [c84, go_sem, Nat.reduceEqDiff, Nat.reduceAdd, Nat.reduceLeDiff, ↓reduceIte, reduceCtorEq, Int.reduceBEq, Int.reduceBNe, Int.reduceLT, Int.reduceLE, Int.reduceGT, Int.reduceGE, Int.reduceNeg, Int.reduceAdd, Int.reduceSub, Nat.reduceMul, Nat.reduceLT, Int.reduceToNat, hk1.one, hl1.one, hk1.cells, hl1.cells, w1, w2]
  refine i_callA (fs := []) (cs := []) ?_ ?_ (kids_ok f _) ?_
  · rfl
  · simp -implicitDefEqProofs only [go_sem, Nat.reduceEqDiff, Nat.reduceAdd, Nat.reduceLeDiff, ↓reduceIte, reduceCtorEq, Int.reduceBEq, Int.reduceBNe, Int.reduceLT, Int.reduceLE, Int.reduceGT, Int.reduceGE, Int.reduceNeg, Int.reduceAdd, Int.reduceSub, Nat.reduceMul, Nat.reduceLT, Int.reduceToNat]
  rintro x H3 ⟨rfl, rfl⟩
  have hE : ∀ o, Ext H (H.new o) := ext_new H
  by_cases hk : kidsF f = (ks.length : Int)
  case neg =>
    simp -implicitDefEqProofs only [go_sem, Nat.reduceEqDiff, Nat.reduceAdd, Nat.reduceLeDiff, ↓reduceIte, reduceCtorEq, Int.reduceBEq, Int.reduceBNe, Int.reduceLT, Int.reduceLE, Int.reduceGT, Int.reduceGE, Int.reduceNeg, Int.reduceAdd, Int.reduceSub, Nat.reduceMul, Nat.reduceLT, Int.reduceToNat, w1, w2, bne_of hk]
    refine ⟨?_, hE _⟩
    simp only [formF, Tm.form, Tm.kids, ne_eq, hk, not_false_eq_true, if_true]
  have hkb : (kidsF f == (ks.length : Int)) = true := by simpa using hk
  have hform : formF r (.mk f n hid s lv ks) = if f = 1 ∨ f = 11 then decide (n ≥ 0) && decide (n ≤ 1073741824)
      else if f = 7 then headIs 6 ks
      else if f = 2 then ((lv.length : Int) == 1) && lv.all r
      else if f = 10 then !(s.data.toList == []) && decide ((s.size : Int) ≤ 60) && lv.all r
      else true := by
    simp only [formF, Tm.form, Tm.kids, Tm.n, Tm.lv, Tm.name, ne_eq, hk, not_true_eq_false, if_false]
    rfl
  have hvar : f = 1 ∨ f = 11 → formF r (.mk f n hid s lv ks) = (decide (n ≥ 0) && decide (n ≤ 1073741824)) := fun h => by rw [hform, if_pos h]
  by_cases e1 : f = 1
  · have hv := hvar (.inl e1)
    subst e1
    by_cases hn0 : n ≥ 0
    · simp -implicitDefEqProofs only [go_sem, Nat.reduceEqDiff, Nat.reduceAdd, Nat.reduceLeDiff, ↓reduceIte, reduceCtorEq, Int.reduceBEq, Int.reduceBNe, Int.reduceLT, Int.reduceLE, Int.reduceGT, Int.reduceGE, Int.reduceNeg, Int.reduceAdd, Int.reduceSub, Nat.reduceMul, Nat.reduceLT, Int.reduceToNat, w1, w2, hkb, hn0]
      exact ⟨by rw [hv]; simp [hn0], hE _⟩
    · simp -implicitDefEqProofs only [go_sem, Nat.reduceEqDiff, Nat.reduceAdd, Nat.reduceLeDiff, ↓reduceIte, reduceCtorEq, Int.reduceBEq, Int.reduceBNe, Int.reduceLT, Int.reduceLE, Int.reduceGT, Int.reduceGE, Int.reduceNeg, Int.reduceAdd, Int.reduceSub, Nat.reduceMul, Nat.reduceLT, Int.reduceToNat, w1, w2, hkb, hn0]
      exact ⟨by rw [hv]; simp [hn0], hE _⟩
  by_cases e2 : f = 11
  · have hv := hvar (.inr e2)
    subst e2
    by_cases hn0 : n ≥ 0
    · simp -implicitDefEqProofs only [go_sem, Nat.reduceEqDiff, Nat.reduceAdd, Nat.reduceLeDiff, ↓reduceIte, reduceCtorEq, Int.reduceBEq, Int.reduceBNe, Int.reduceLT, Int.reduceLE, Int.reduceGT, Int.reduceGE, Int.reduceNeg, Int.reduceAdd, Int.reduceSub, Nat.reduceMul, Nat.reduceLT, Int.reduceToNat, w1, w2, hkb, hn0]
      exact ⟨by rw [hv]; simp [hn0], hE _⟩
    · simp -implicitDefEqProofs only [go_sem, Nat.reduceEqDiff, Nat.reduceAdd, Nat.reduceLeDiff, ↓reduceIte, reduceCtorEq, Int.reduceBEq, Int.reduceBNe, Int.reduceLT, Int.reduceLE, Int.reduceGT, Int.reduceGE, Int.reduceNeg, Int.reduceAdd, Int.reduceSub, Nat.reduceMul, Nat.reduceLT, Int.reduceToNat, w1, w2, hkb, hn0]
      exact ⟨by rw [hv]; simp [hn0], hE _⟩
  by_cases e3 : f = 7
  · subst e3
    have hlen : ks.length = 3 := by
      have : kidsF 7 = 3 := rfl
      omega
    obtain ⟨k, hk0⟩ : ∃ k, ks[0]? = some k := ⟨_, List.getElem?_eq_getElem (by omega)⟩
    have hhead : headIs 6 ks = (k.form == 6) := by
      cases ks with
      | nil => simp at hk0
      | cons k' ks' => simp at hk0; subst hk0; rfl
    have hix := hk1.aix 6 (i := 0) (by omega)
    obtain ⟨kc, hkc, hle, hld⟩ := hk2.load (i := 0) (k := k) hk0
    obtain ⟨lx1, kx1, ls1, cs1, hkc6, _⟩ := hkc.six
    rw [hkc6] at hld
    simp only [Nat.zero_mul, Nat.zero_add, List.drop_zero, Int.natCast_zero, Int.ofNat_zero, Int.ofNat_eq_natCast, Int.cast_ofNat_Int] at hle hld hix
    have hle1 : 1 ≤ cs.length := by omega
    have hld1 : cs.take 1 = [aint k.form] := by
      have := congrArg (List.take 1) hld
      rw [List.take_take] at this
      exact this
    simp -implicitDefEqProofs only [go_sem, Nat.reduceEqDiff, Nat.reduceAdd, Nat.reduceLeDiff, ↓reduceIte, reduceCtorEq, Int.reduceBEq, Int.reduceBNe, Int.reduceLT, Int.reduceLE, Int.reduceGT, Int.reduceGE, Int.reduceNeg, Int.reduceAdd, Int.reduceSub, Nat.reduceMul, Nat.reduceLT, Int.reduceToNat, w1, w2, hkb, hix, hle1, hld1]
    refine ⟨?_, hE _⟩
    rw [hform, hhead]
    rfl
  by_cases e4 : f = 2
  · subst e4
    have hv : formF r (.mk 2 n hid s lv ks) = (((lv.length : Int) == 1) && lv.all r) := by rw [hform]; rfl
    cases h1 : ((lv.length : Int) == 1) with
    | true =>
      simp -implicitDefEqProofs only [go_sem, Nat.reduceEqDiff, Nat.reduceAdd, Nat.reduceLeDiff, ↓reduceIte, reduceCtorEq, Int.reduceBEq, Int.reduceBNe, Int.reduceLT, Int.reduceLE, Int.reduceGT, Int.reduceGE, Int.reduceNeg, Int.reduceAdd, Int.reduceSub, Nat.reduceMul, Nat.reduceLT, Int.reduceToNat, w1, w2, hkb, h1, i_callG]
      refine i_callA (fs := []) (cs := []) ?_ ?_ (levels_ok r lv lx ls hl1 hl2 hn hc _) ?_
      · rfl
      · simp -implicitDefEqProofs only [go_sem, Nat.reduceEqDiff, Nat.reduceAdd, Nat.reduceLeDiff, ↓reduceIte, reduceCtorEq, Int.reduceBEq, Int.reduceBNe, Int.reduceLT, Int.reduceLE, Int.reduceGT, Int.reduceGE, Int.reduceNeg, Int.reduceAdd, Int.reduceSub, Nat.reduceMul, Nat.reduceLT, Int.reduceToNat]
      rintro x H3 ⟨rfl, rfl⟩
      simp -implicitDefEqProofs only [go_sem, Nat.reduceEqDiff, Nat.reduceAdd, Nat.reduceLeDiff, ↓reduceIte, reduceCtorEq, Int.reduceBEq, Int.reduceBNe, Int.reduceLT, Int.reduceLE, Int.reduceGT, Int.reduceGE, Int.reduceNeg, Int.reduceAdd, Int.reduceSub, Nat.reduceMul, Nat.reduceLT, Int.reduceToNat]
      exact ⟨by rw [hv, h1, Bool.true_and], hE _⟩
    | false =>
      simp -implicitDefEqProofs only [go_sem, Nat.reduceEqDiff, Nat.reduceAdd, Nat.reduceLeDiff, ↓reduceIte, reduceCtorEq, Int.reduceBEq, Int.reduceBNe, Int.reduceLT, Int.reduceLE, Int.reduceGT, Int.reduceGE, Int.reduceNeg, Int.reduceAdd, Int.reduceSub, Nat.reduceMul, Nat.reduceLT, Int.reduceToNat, w1, w2, hkb, h1, i_callG]
      exact ⟨by rw [hv, h1]; rfl, hE _⟩
  by_cases e5 : f = 10
  · subst e5
    have hv : formF r (.mk 10 n hid s lv ks) = (!(s.data.toList == []) && decide ((s.size : Int) ≤ 60) && lv.all r) := by rw [hform]; rfl
    cases h1 : (s.data.toList == []) with
    | true =>
      simp -implicitDefEqProofs only [go_sem, Nat.reduceEqDiff, Nat.reduceAdd, Nat.reduceLeDiff, ↓reduceIte, reduceCtorEq, Int.reduceBEq, Int.reduceBNe, Int.reduceLT, Int.reduceLE, Int.reduceGT, Int.reduceGE, Int.reduceNeg, Int.reduceAdd, Int.reduceSub, Nat.reduceMul, Nat.reduceLT, Int.reduceToNat, sbin, w1, w2, hkb, h1, i_callG]
      exact ⟨by rw [hv, h1]; rfl, hE _⟩
    | false =>
      by_cases h2 : (s.size : Int) ≤ 60
      · simp -implicitDefEqProofs only [go_sem, Nat.reduceEqDiff, Nat.reduceAdd, Nat.reduceLeDiff, ↓reduceIte, reduceCtorEq, Int.reduceBEq, Int.reduceBNe, Int.reduceLT, Int.reduceLE, Int.reduceGT, Int.reduceGE, Int.reduceNeg, Int.reduceAdd, Int.reduceSub, Nat.reduceMul, Nat.reduceLT, Int.reduceToNat, sbin, w1, w2, hkb, h1, h2, i_callG]
        refine i_callA (fs := []) (cs := []) ?_ ?_ (levels_ok r lv lx ls hl1 hl2 hn hc _) ?_
        · rfl
        · simp -implicitDefEqProofs only [go_sem, Nat.reduceEqDiff, Nat.reduceAdd, Nat.reduceLeDiff, ↓reduceIte, reduceCtorEq, Int.reduceBEq, Int.reduceBNe, Int.reduceLT, Int.reduceLE, Int.reduceGT, Int.reduceGE, Int.reduceNeg, Int.reduceAdd, Int.reduceSub, Nat.reduceMul, Nat.reduceLT, Int.reduceToNat]
        rintro x H3 ⟨rfl, rfl⟩
        simp -implicitDefEqProofs only [go_sem, Nat.reduceEqDiff, Nat.reduceAdd, Nat.reduceLeDiff, ↓reduceIte, reduceCtorEq, Int.reduceBEq, Int.reduceBNe, Int.reduceLT, Int.reduceLE, Int.reduceGT, Int.reduceGE, Int.reduceNeg, Int.reduceAdd, Int.reduceSub, Nat.reduceMul, Nat.reduceLT, Int.reduceToNat]
        exact ⟨by rw [hv, h1]; simp [h2], hE _⟩
      · simp -implicitDefEqProofs only [go_sem, Nat.reduceEqDiff, Nat.reduceAdd, Nat.reduceLeDiff, ↓reduceIte, reduceCtorEq, Int.reduceBEq, Int.reduceBNe, Int.reduceLT, Int.reduceLE, Int.reduceGT, Int.reduceGE, Int.reduceNeg, Int.reduceAdd, Int.reduceSub, Nat.reduceMul, Nat.reduceLT, Int.reduceToNat, sbin, w1, w2, hkb, h1, h2, i_callG]
        exact ⟨by rw [hv, h1]; simp [h2], hE _⟩
  simp -implicitDefEqProofs only [go_sem, Nat.reduceEqDiff, Nat.reduceAdd, Nat.reduceLeDiff, ↓reduceIte, reduceCtorEq, Int.reduceBEq, Int.reduceBNe, Int.reduceLT, Int.reduceLE, Int.reduceGT, Int.reduceGE, Int.reduceNeg, Int.reduceAdd, Int.reduceSub, Nat.reduceMul, Nat.reduceLT, Int.reduceToNat, w1, w2, hkb, bne_of e1, bne_of e2, bne_of e3, bne_of e4, bne_of e5]
  exact ⟨by rw [hform]; simp [e1, e2, e3, e4, e5], hE _⟩

end Go.Proofs.Ytooaiddfokbffaa.E

/- A term is asked, as the code asks it. Conditions: none. -/
set_option linter.unusedVariables false
set_option linter.unusedSimpArgs false
namespace Go.Proofs.Ytooaiddfokbffaa.E
open Go Go.Proofs
attribute [local go_sem] s_seq s_ops s_draw s_block s_skip s_ret s_exit i_nil i_cons i_run i_runG s_condQ c_true c_false aop ev_t ev_c updO_at updO_no upd_at t_normal t_ret t_exit b_normal b_ret b_exit a_some ac_v ac_agg ac_ptr ac_slc ac_ro ac_rop ac_fn new_next set_next argTm_zero argTm_succ argTm_nil ab_bool ab_uv beq_self_eq_true Option.some_beq_some Bool.not_not beq_iff_eq decide_true decide_false Bool.not_true Bool.not_false afld aload astore apack alen_str alen_ro alen_slc alen_nil new_get set_get ite_true ite_false Option.map_some Option.bind_some ibin isShift Nat.add_zero Nat.zero_add List.length_cons List.length_nil List.drop_zero List.drop_succ_cons List.take_succ_cons List.take_zero if_true if_false setL List.set_cons_zero List.set_cons_succ List.all_cons List.all_nil one_int one_bool one_str one_nil one_ptr one_slc one_ro one_rop one_fn Bool.and_self Bool.and_true true_and and_true and_self Bool.false_eq_true post_ret post_normal resAll resOne packR Option.some.injEq exists_eq_left' List.map_cons List.map_nil List.nil_append List.append_nil List.cons_append d_nil d_cons k_nil k_cons g_op g_same g_new avBlock forall_eq' List.getElem?_cons_succ List.getElem?_cons_zero List.getElem?_nil okind gOk bne false_imp_iff forall_const imp_self implies_true true_imp_iff i_callG

theorem anat_int (k : IntKind) (n : Nat) : anat (some (.v (.int k (n : Int)))) = some (some n) := by simp [anat]
theorem anat_none : anat none = some none := rfl

theorem Old.cell {n : Nat} {cells : List AV} (h : Old n (.agg cells)) {x : AV} (hx : x ∈ cells) : Old n x := by
  cases h with | agg _ h => exact h x hx

theorem SlR.cut {n : Nat} {x : AV} {cs : List AV} (h : SlR n x cs) (es : Nat) : ∃ y cs', aslice es x none (some n) (some n) = some y ∧ SlR n y cs' ∧ (cs' = cs ∨ n = 0) ∧ ∀ m, Old m x → Old m y := by
  rcases h with ⟨rfl, rfl⟩ | ⟨lo, ex, rfl, hlo⟩
  · exact ⟨_, cs, by simp [aslice], .inl ⟨rfl, rfl⟩, .inl rfl, fun _ h => h⟩
  · by_cases h0 : n = 0
    · subst h0
      exact ⟨.ro 0 0 true [], [], by simp [aslice, acut], .inr ⟨0, true, rfl, Nat.le_refl _⟩, .inr rfl, fun m _ => .ro _ _ _ _ fun x hx => by cases hx⟩
    · refine ⟨.ro n n true cs, cs, ?_, .inr ⟨n, true, rfl, Nat.le_refl _⟩, .inl rfl, fun m h => ?_⟩
      · have : n ≤ max n lo := Nat.le_max_left _ _
        simp [aslice, acut, this]
        omega
      · cases h with | ro _ _ _ _ h => exact .ro _ _ _ _ h

set_option maxRecDepth 100000 in
theorem parts_ok (t : Tm) (cells : List AV) (hT : TmR t cells) (H : AHeap) :
    SCall Try.prog 83 [.agg cells] H fun x H' => (∃ cs, SlR t.kids.length x cs ∧ KsR t.kids cs) ∧ H' = H := by
  obtain ⟨lx, kx, ls, cs, rfl, hl1, hl2, hk1, hk2⟩ := hT.six
  obtain ⟨y, cs', hy, hs, hcs, ho⟩ := hk1.cut 6
  have w1 := fun H => hk1.alen H
  have main : SCall Try.prog 83 [.agg [aint t.form, aint t.n, abl t.hid, .v (.string t.name), lx, kx]] H fun x H' => x = y ∧ Ext H H' := by
    refine SCall.intro mixed cf83 ?_
    simp -implicitDefEqProofs only [c83, go_sem, Nat.reduceEqDiff, Nat.reduceAdd, Nat.reduceLeDiff, ↓reduceIte, reduceCtorEq, Int.reduceBEq, Int.reduceBNe, Int.reduceLT, Int.reduceLE, Int.reduceGT, Int.reduceGE, Int.reduceNeg, Int.reduceAdd, Int.reduceSub, Nat.reduceMul, Nat.reduceLT, Int.reduceToNat, hk1.one, hl1.one, hk1.cells, hl1.cells, w1, anat_int, anat_none, hy, Option.map_none]
    exact ext_new H _
  refine (main.pure fun ha x H' ⟨h1, h2, h3⟩ => ⟨h2, ?_, h3⟩).mono ?_
  · rw [h1]
    exact ho _ ((ha _ (List.mem_cons_self ..)).cell (by simp))
  · rintro x H' ⟨⟨_, rfl, _⟩, rfl⟩
    refine ⟨⟨cs', hs, ?_⟩, rfl⟩
    rcases hcs with rfl | h0
    · exact hk2
    · rw [List.length_eq_zero_iff] at h0
      rw [h0]
      trivial

mutual
def allF (p : Tm → Bool) : Tm → Bool
  | .mk f n h s lv ks => p (.mk f n h s lv ks) && allK p ks
def allK (p : Tm → Bool) : List Tm → Bool
  | [] => true
  | k :: ks => allF p k && allK p ks
end

/-- All lists of a part are short, and its levels are asked. -/
def Fine (r : Lv → Bool) (t : Tm) : Prop := t.lv.length ≤ 4611686018427387904 ∧ t.kids.length ≤ 4611686018427387904 ∧ ∀ l ∈ t.lv, CanSpec r l

set_option maxRecDepth 100000 in
theorem all_ok (r : Lv → Bool) : ∀ t, Tm.All (Fine r) t → ∀ (cells : List AV), TmR t cells → ∀ (H : AHeap),
    SCall Try.prog 82 [.agg cells, .fn (.func 83) [] [], .fn (.func 84) [] []] H fun x H' => x = abl (allF (formF r) t) ∧ H' = H := by
  refine Tm.rule fun f n hid s lv ks ih hall cells hT H => ?_
  simp only [Tm.All] at hall
  obtain ⟨⟨hn1, hn2, hcan⟩, hallK⟩ := hall
  simp only [Tm.lv, Tm.kids] at hn1 hn2 hcan
  refine SCall.val (SCall.intro mixed cf82 ?_)
  have hT' := hT
  obtain ⟨lx, kx, ls, cs, rfl, hl1, hl2, hk1, hk2⟩ := hT.six
  simp -implicitDefEqProofs only [c82, go_sem, Nat.reduceEqDiff, Nat.reduceAdd, Nat.reduceLeDiff, ↓reduceIte, reduceCtorEq, Int.reduceBEq, Int.reduceBNe, Int.reduceLT, Int.reduceLE, Int.reduceGT, Int.reduceGE, Int.reduceNeg, Int.reduceAdd, Int.reduceSub, Nat.reduceMul, Nat.reduceLT, Int.reduceToNat, hk1.one, hl1.one, hk1.cells, hl1.cells]
  refine i_callA (fs := []) (cs := []) (fid := 84) ?_ ?_ (formed_ok r _ _ hT' hn1 hcan _) ?_
  · rfl
  · simp -implicitDefEqProofs only [go_sem, Nat.reduceEqDiff, Nat.reduceAdd, Nat.reduceLeDiff, ↓reduceIte, reduceCtorEq, Int.reduceBEq, Int.reduceBNe, Int.reduceLT, Int.reduceLE, Int.reduceGT, Int.reduceGE, Int.reduceNeg, Int.reduceAdd, Int.reduceSub, Nat.reduceMul, Nat.reduceLT, Int.reduceToNat]
  rintro x H3 ⟨rfl, rfl⟩
  cases hf : formF r (.mk f n hid s lv ks) with
  | false =>
    simp -implicitDefEqProofs only [go_sem, Nat.reduceEqDiff, Nat.reduceAdd, Nat.reduceLeDiff, ↓reduceIte, reduceCtorEq, Int.reduceBEq, Int.reduceBNe, Int.reduceLT, Int.reduceLE, Int.reduceGT, Int.reduceGE, Int.reduceNeg, Int.reduceAdd, Int.reduceSub, Nat.reduceMul, Nat.reduceLT, Int.reduceToNat]
    refine ⟨by simp only [allF, hf, Bool.false_and], ext_new H _⟩
  | true =>
  simp -implicitDefEqProofs only [go_sem, Nat.reduceEqDiff, Nat.reduceAdd, Nat.reduceLeDiff, ↓reduceIte, reduceCtorEq, Int.reduceBEq, Int.reduceBNe, Int.reduceLT, Int.reduceLE, Int.reduceGT, Int.reduceGE, Int.reduceNeg, Int.reduceAdd, Int.reduceSub, Nat.reduceMul, Nat.reduceLT, Int.reduceToNat]
  refine i_callA (fs := []) (cs := []) (fid := 83) ?_ ?_ (parts_ok _ _ hT' _) ?_
  · rfl
  · simp -implicitDefEqProofs only [go_sem, Nat.reduceEqDiff, Nat.reduceAdd, Nat.reduceLeDiff, ↓reduceIte, reduceCtorEq, Int.reduceBEq, Int.reduceBNe, Int.reduceLT, Int.reduceLE, Int.reduceGT, Int.reduceGE, Int.reduceNeg, Int.reduceAdd, Int.reduceSub, Nat.reduceMul, Nat.reduceLT, Int.reduceToNat]
  rintro x H3 ⟨⟨cs', hk1', hk2'⟩, rfl⟩
  simp only [Tm.kids] at hk1' hk2'
  simp -implicitDefEqProofs only [go_sem, Nat.reduceEqDiff, Nat.reduceAdd, Nat.reduceLeDiff, ↓reduceIte, reduceCtorEq, Int.reduceBEq, Int.reduceBNe, Int.reduceLT, Int.reduceLE, Int.reduceGT, Int.reduceGE, Int.reduceNeg, Int.reduceAdd, Int.reduceSub, Nat.reduceMul, Nat.reduceLT, Int.reduceToNat, fun H => hk1'.alen H]
  have hres : allF (formF r) (.mk f n hid s lv ks) = allK (formF r) ks := by simp only [allF, hf, Bool.true_and]
  rw [hres]
  refine swp_loop (fun k st => ∃ (i : Nat), k = ks.length - i ∧ i ≤ ks.length ∧ st.tm 1 = .fn (.func 83) [] [] ∧ st.tm 2 = .fn (.func 84) [] [] ∧ st.tm 15 = x ∧ st.tm 16 = aint ks.length ∧ st.tm 17 = aint i ∧ Ext H st.heap ∧ allK (formF r) ks = allK (formF r) (ks.drop i)) (k := ks.length) ⟨0, ?_⟩ ?_
  · exact ⟨by omega, by omega, rfl, rfl, rfl, rfl, rfl, ext_new H _, by simp⟩
  rintro k ⟨tm, H2⟩ ⟨i, rfl, hi, h1, h2, h5, h6, h7, ⟨hx1, hx2⟩, hr⟩
  simp only at h1 h2 h5 h6 h7 hx1 hx2
  by_cases hlt : i < ks.length
  · obtain ⟨kc, hkc, hle, hld⟩ := hk2'.load (List.getElem?_eq_getElem hlt)
    obtain ⟨lx1, kx1, ls1, cs1, hkc6, hm1, hm2, hm3, hm4⟩ := hkc.six
    subst hkc6
    have hix := hk1'.aix 6 hlt
    have hltI : (i : Int) < (ks.length : Int) := by omega
    have w3 : IntKind.i64.wrap ((i : Int) + 1) = (i : Int) + 1 := i64_ok _ (by omega)
    have hdrop : ks.drop i = ks[i] :: ks.drop (i + 1) := List.drop_eq_getElem_cons hlt
    simp -implicitDefEqProofs only [go_sem, Nat.reduceEqDiff, Nat.reduceAdd, Nat.reduceLeDiff, ↓reduceIte, reduceCtorEq, Int.reduceBEq, Int.reduceBNe, Int.reduceLT, Int.reduceLE, Int.reduceGT, Int.reduceGE, Int.reduceNeg, Int.reduceAdd, Int.reduceSub, Nat.reduceMul, Nat.reduceLT, Int.reduceToNat, h1, h2, h5, h6, h7, hltI, hix, hle, hld, hm1.one, hm1.cells, hm3.one, hm3.cells]
    refine i_callA (fs := []) (cs := []) (fid := 82) ?_ ?_ (ih ks[i] (List.getElem_mem hlt) (hallK.mem _ (List.getElem_mem hlt)) _ hkc _) ?_
    · rfl
    · simp -implicitDefEqProofs only [go_sem, Nat.reduceEqDiff, Nat.reduceAdd, Nat.reduceLeDiff, ↓reduceIte, reduceCtorEq, Int.reduceBEq, Int.reduceBNe, Int.reduceLT, Int.reduceLE, Int.reduceGT, Int.reduceGE, Int.reduceNeg, Int.reduceAdd, Int.reduceSub, Nat.reduceMul, Nat.reduceLT, Int.reduceToNat, h1, h2]
    · rintro x' H3 ⟨rfl, rfl⟩
      cases hf1 : allF (formF r) ks[i] with
      | true =>
        simp -implicitDefEqProofs only [go_sem, Nat.reduceEqDiff, Nat.reduceAdd, Nat.reduceLeDiff, ↓reduceIte, reduceCtorEq, Int.reduceBEq, Int.reduceBNe, Int.reduceLT, Int.reduceLE, Int.reduceGT, Int.reduceGE, Int.reduceNeg, Int.reduceAdd, Int.reduceSub, Nat.reduceMul, Nat.reduceLT, Int.reduceToNat, h7, w3]
        refine ⟨ks.length - (i + 1), by omega, i + 1, rfl, by omega, h1, h2, h5, h6, by simp, ⟨?_, fun b hb => ?_⟩, ?_⟩
        · simp -implicitDefEqProofs only [go_sem, Nat.reduceEqDiff, Nat.reduceAdd, Nat.reduceLeDiff, ↓reduceIte, reduceCtorEq, Int.reduceBEq, Int.reduceBNe, Int.reduceLT, Int.reduceLE, Int.reduceGT, Int.reduceGE, Int.reduceNeg, Int.reduceAdd, Int.reduceSub, Nat.reduceMul, Nat.reduceLT, Int.reduceToNat]; omega
        · have e1 : ¬ b = H2.next := by omega
          simp -implicitDefEqProofs only [go_sem, Nat.reduceEqDiff, Nat.reduceAdd, Nat.reduceLeDiff, ↓reduceIte, reduceCtorEq, Int.reduceBEq, Int.reduceBNe, Int.reduceLT, Int.reduceLE, Int.reduceGT, Int.reduceGE, Int.reduceNeg, Int.reduceAdd, Int.reduceSub, Nat.reduceMul, Nat.reduceLT, Int.reduceToNat, e1]
          exact hx2 b hb
        · rw [hr, hdrop]; simp only [allK, hf1, Bool.true_and]
      | false =>
        simp -implicitDefEqProofs only [go_sem, Nat.reduceEqDiff, Nat.reduceAdd, Nat.reduceLeDiff, ↓reduceIte, reduceCtorEq, Int.reduceBEq, Int.reduceBNe, Int.reduceLT, Int.reduceLE, Int.reduceGT, Int.reduceGE, Int.reduceNeg, Int.reduceAdd, Int.reduceSub, Nat.reduceMul, Nat.reduceLT, Int.reduceToNat]
        refine ⟨?_, ?_, fun b hb => ?_⟩
        · rw [hr, hdrop]; simp only [allK, hf1, Bool.false_and]
        · simp -implicitDefEqProofs only [go_sem, Nat.reduceEqDiff, Nat.reduceAdd, Nat.reduceLeDiff, ↓reduceIte, reduceCtorEq, Int.reduceBEq, Int.reduceBNe, Int.reduceLT, Int.reduceLE, Int.reduceGT, Int.reduceGE, Int.reduceNeg, Int.reduceAdd, Int.reduceSub, Nat.reduceMul, Nat.reduceLT, Int.reduceToNat]; omega
        · have e1 : ¬ b = H2.next := by omega
          simp -implicitDefEqProofs only [go_sem, Nat.reduceEqDiff, Nat.reduceAdd, Nat.reduceLeDiff, ↓reduceIte, reduceCtorEq, Int.reduceBEq, Int.reduceBNe, Int.reduceLT, Int.reduceLE, Int.reduceGT, Int.reduceGE, Int.reduceNeg, Int.reduceAdd, Int.reduceSub, Nat.reduceMul, Nat.reduceLT, Int.reduceToNat, e1]
          exact hx2 b hb
  · have hir : i = ks.length := by omega
    have hltI : ¬ (i : Int) < (ks.length : Int) := by omega
    simp -implicitDefEqProofs only [go_sem, Nat.reduceEqDiff, Nat.reduceAdd, Nat.reduceLeDiff, ↓reduceIte, reduceCtorEq, Int.reduceBEq, Int.reduceBNe, Int.reduceLT, Int.reduceLE, Int.reduceGT, Int.reduceGE, Int.reduceNeg, Int.reduceAdd, Int.reduceSub, Nat.reduceMul, Nat.reduceLT, Int.reduceToNat, h6, h7, hltI]
    refine ⟨?_, hx1, hx2⟩
    rw [hr, hir, List.drop_length]
    rfl

end Go.Proofs.Ytooaiddfokbffaa.E

/- What a term's check tells, and its size, as the code asks them. Conditions: none. -/
set_option linter.unusedVariables false
set_option linter.unusedSimpArgs false
namespace Go.Proofs.Ytooaiddfokbffaa.E
open Go Go.Proofs
attribute [local go_sem] s_seq s_ops s_draw s_block s_skip s_ret s_exit i_nil i_cons i_run i_runG s_condQ c_true c_false aop ev_t ev_c updO_at updO_no upd_at t_normal t_ret t_exit b_normal b_ret b_exit a_some ac_v ac_agg ac_ptr ac_slc ac_ro ac_rop ac_fn new_next set_next argTm_zero argTm_succ argTm_nil ab_bool ab_uv beq_self_eq_true Option.some_beq_some Bool.not_not beq_iff_eq decide_true decide_false Bool.not_true Bool.not_false afld aload astore apack alen_str alen_ro alen_slc alen_nil new_get set_get ite_true ite_false Option.map_some Option.bind_some ibin isShift Nat.add_zero Nat.zero_add List.length_cons List.length_nil List.drop_zero List.drop_succ_cons List.take_succ_cons List.take_zero if_true if_false setL List.set_cons_zero List.set_cons_succ List.all_cons List.all_nil one_int one_bool one_str one_nil one_ptr one_slc one_ro one_rop one_fn Bool.and_self Bool.and_true true_and and_true and_self Bool.false_eq_true post_ret post_normal resAll resOne packR Option.some.injEq exists_eq_left' List.map_cons List.map_nil List.nil_append List.append_nil List.cons_append d_nil d_cons k_nil k_cons g_op g_same g_new avBlock forall_eq' List.getElem?_cons_succ List.getElem?_cons_zero List.getElem?_nil okind gOk bne false_imp_iff forall_const imp_self implies_true true_imp_iff i_callG

def checkF (r : Lv → Bool) (t : Tm) : Int := if (fitT 0 1 t).1 = false then 2 else if allF (formF r) t = false then 10 else 0

set_option maxRecDepth 100000 in
theorem check_ok (r : Lv → Bool) (t : Tm) (hall : Tm.All (Fine r) t) (cells : List AV) (hT : TmR t cells) (H : AHeap) :
    SCall Try.prog 24 [.agg cells] H fun x H' => x = aint (checkF r t) ∧ H' = H := by
  refine SCall.val (SCall.intro mixed cf24 ?_)
  have hT' := hT
  obtain ⟨lx, kx, ls, cs, rfl, hl1, hl2, hk1, hk2⟩ := hT.six
  have e1 : ¬ H.next = H.next + 1 := by omega
  have e2 : ¬ H.next + 1 = H.next := by omega
  simp -implicitDefEqProofs only [c24, go_sem, Nat.reduceEqDiff, Nat.reduceAdd, Nat.reduceLeDiff, ↓reduceIte, reduceCtorEq, Int.reduceBEq, Int.reduceBNe, Int.reduceLT, Int.reduceLE, Int.reduceGT, Int.reduceGE, Int.reduceNeg, Int.reduceAdd, Int.reduceSub, Nat.reduceMul, Nat.reduceLT, Int.reduceToNat, hk1.one, hl1.one, hk1.cells, hl1.cells, afill, e1, e2]
  refine i_callA (fs := [.ptr (H.next + 1) 0]) (cs := []) (fid := 81) ?_ ?_ (fits_ok t _ hT' 0 1 (by omega) (by omega) _ (H.next + 1) ?_ ?_) ?_
  · rfl
  · simp -implicitDefEqProofs only [go_sem, Nat.reduceEqDiff, Nat.reduceAdd, Nat.reduceLeDiff, ↓reduceIte, reduceCtorEq, Int.reduceBEq, Int.reduceBNe, Int.reduceLT, Int.reduceLE, Int.reduceGT, Int.reduceGE, Int.reduceNeg, Int.reduceAdd, Int.reduceSub, Nat.reduceMul, Nat.reduceLT, Int.reduceToNat]
  · simp -implicitDefEqProofs only [go_sem, Nat.reduceEqDiff, Nat.reduceAdd, Nat.reduceLeDiff, ↓reduceIte, reduceCtorEq, Int.reduceBEq, Int.reduceBNe, Int.reduceLT, Int.reduceLE, Int.reduceGT, Int.reduceGE, Int.reduceNeg, Int.reduceAdd, Int.reduceSub, Nat.reduceMul, Nat.reduceLT, Int.reduceToNat]
  · simp -implicitDefEqProofs only [go_sem, Nat.reduceEqDiff, Nat.reduceAdd, Nat.reduceLeDiff, ↓reduceIte, reduceCtorEq, Int.reduceBEq, Int.reduceBNe, Int.reduceLT, Int.reduceLE, Int.reduceGT, Int.reduceGE, Int.reduceNeg, Int.reduceAdd, Int.reduceSub, Nat.reduceMul, Nat.reduceLT, Int.reduceToNat]; omega
  rintro x H3 ⟨rfl, rfl⟩
  have hE : ∀ o1 o2 o3, Ext H (((H.new o1).new o2).set (H.next + 1) o3) := fun o1 o2 o3 => ⟨by simp -implicitDefEqProofs only [go_sem, Nat.reduceEqDiff, Nat.reduceAdd, Nat.reduceLeDiff, ↓reduceIte, reduceCtorEq, Int.reduceBEq, Int.reduceBNe, Int.reduceLT, Int.reduceLE, Int.reduceGT, Int.reduceGE, Int.reduceNeg, Int.reduceAdd, Int.reduceSub, Nat.reduceMul, Nat.reduceLT, Int.reduceToNat]; omega, fun b hb => by
    have k1 : ¬ b = H.next := by omega
    have k2 : ¬ b = H.next + 1 := by omega
    simp -implicitDefEqProofs only [go_sem, Nat.reduceEqDiff, Nat.reduceAdd, Nat.reduceLeDiff, ↓reduceIte, reduceCtorEq, Int.reduceBEq, Int.reduceBNe, Int.reduceLT, Int.reduceLE, Int.reduceGT, Int.reduceGE, Int.reduceNeg, Int.reduceAdd, Int.reduceSub, Nat.reduceMul, Nat.reduceLT, Int.reduceToNat, k1, k2]⟩
  cases hf : (fitT 0 1 t).1 with
  | false =>
    simp -implicitDefEqProofs only [go_sem, Nat.reduceEqDiff, Nat.reduceAdd, Nat.reduceLeDiff, ↓reduceIte, reduceCtorEq, Int.reduceBEq, Int.reduceBNe, Int.reduceLT, Int.reduceLE, Int.reduceGT, Int.reduceGE, Int.reduceNeg, Int.reduceAdd, Int.reduceSub, Nat.reduceMul, Nat.reduceLT, Int.reduceToNat]
    exact ⟨by simp only [checkF, hf, if_true], hE _ _ _⟩
  | true =>
  simp -implicitDefEqProofs only [go_sem, Nat.reduceEqDiff, Nat.reduceAdd, Nat.reduceLeDiff, ↓reduceIte, reduceCtorEq, Int.reduceBEq, Int.reduceBNe, Int.reduceLT, Int.reduceLE, Int.reduceGT, Int.reduceGE, Int.reduceNeg, Int.reduceAdd, Int.reduceSub, Nat.reduceMul, Nat.reduceLT, Int.reduceToNat, e1, e2]
  refine i_callA (fs := []) (cs := []) (fid := 82) ?_ ?_ (all_ok r t hall _ hT' _) ?_
  · rfl
  · simp -implicitDefEqProofs only [go_sem, Nat.reduceEqDiff, Nat.reduceAdd, Nat.reduceLeDiff, ↓reduceIte, reduceCtorEq, Int.reduceBEq, Int.reduceBNe, Int.reduceLT, Int.reduceLE, Int.reduceGT, Int.reduceGE, Int.reduceNeg, Int.reduceAdd, Int.reduceSub, Nat.reduceMul, Nat.reduceLT, Int.reduceToNat]
  rintro x H3 ⟨rfl, rfl⟩
  cases hg : allF (formF r) t with
  | false =>
    simp -implicitDefEqProofs only [go_sem, Nat.reduceEqDiff, Nat.reduceAdd, Nat.reduceLeDiff, ↓reduceIte, reduceCtorEq, Int.reduceBEq, Int.reduceBNe, Int.reduceLT, Int.reduceLE, Int.reduceGT, Int.reduceGE, Int.reduceNeg, Int.reduceAdd, Int.reduceSub, Nat.reduceMul, Nat.reduceLT, Int.reduceToNat]
    exact ⟨by simp only [checkF, hf, hg, if_true, Bool.true_eq_false, if_false], hE _ _ _⟩
  | true =>
    simp -implicitDefEqProofs only [go_sem, Nat.reduceEqDiff, Nat.reduceAdd, Nat.reduceLeDiff, ↓reduceIte, reduceCtorEq, Int.reduceBEq, Int.reduceBNe, Int.reduceLT, Int.reduceLE, Int.reduceGT, Int.reduceGE, Int.reduceNeg, Int.reduceAdd, Int.reduceSub, Nat.reduceMul, Nat.reduceLT, Int.reduceToNat]
    exact ⟨by simp only [checkF, hf, hg, Bool.true_eq_false, if_false], hE _ _ _⟩

/-! ### Counting -/
mutual
def leftT (c : Int) : Tm → Bool × Int
  | .mk _ _ _ _ _ ks => if c - 1 < 0 then (false, c - 1) else leftK (c - 1) ks
def leftK (c : Int) : List Tm → Bool × Int
  | [] => (true, c)
  | k :: ks => if (leftT c k).1 = true then leftK (leftT c k).2 ks else (false, (leftT c k).2)
end

/-- raw.Size at the greatest size. -/
def rawSizeF (t : Tm) : Int := 20001 - (if (leftT 20001 t).2 > 0 then (leftT 20001 t).2 else 0)

end Go.Proofs.Ytooaiddfokbffaa.E

/- The size of a term, as the code and the reference tell it. Conditions: none. -/
set_option linter.unusedVariables false
set_option linter.unusedSimpArgs false
namespace Go.Proofs.Ytooaiddfokbffaa.E
open Go Go.Proofs
attribute [local go_sem] s_seq s_ops s_draw s_block s_skip s_ret s_exit i_nil i_cons i_run i_runG s_condQ c_true c_false aop ev_t ev_c updO_at updO_no upd_at t_normal t_ret t_exit b_normal b_ret b_exit a_some ac_v ac_agg ac_ptr ac_slc ac_ro ac_rop ac_fn new_next set_next argTm_zero argTm_succ argTm_nil ab_bool ab_uv beq_self_eq_true Option.some_beq_some Bool.not_not beq_iff_eq decide_true decide_false Bool.not_true Bool.not_false afld aload astore apack alen_str alen_ro alen_slc alen_nil new_get set_get ite_true ite_false Option.map_some Option.bind_some ibin isShift Nat.add_zero Nat.zero_add List.length_cons List.length_nil List.drop_zero List.drop_succ_cons List.take_succ_cons List.take_zero if_true if_false setL List.set_cons_zero List.set_cons_succ List.all_cons List.all_nil one_int one_bool one_str one_nil one_ptr one_slc one_ro one_rop one_fn Bool.and_self Bool.and_true true_and and_true and_self Bool.false_eq_true post_ret post_normal resAll resOne packR Option.some.injEq exists_eq_left' List.map_cons List.map_nil List.nil_append List.append_nil List.cons_append d_nil d_cons k_nil k_cons g_op g_same g_new avBlock forall_eq' List.getElem?_cons_succ List.getElem?_cons_zero List.getElem?_nil okind gOk bne false_imp_iff forall_const imp_self implies_true true_imp_iff i_callG

def sizeF (r : Lv → Bool) (t : Tm) : Int := if checkF r t = 0 then (fitT 0 1 t).2 else 0

/-! ### The reference's count -/
mutual
def partT (left high : Int) : Tm → Int × Int
  | .mk _ _ _ _ _ ks => if left < 1 ∨ high < 1 then (1073741824, 1073741824) else partK left high 1 0 ks
def partK (left high n h : Int) : List Tm → Int × Int
  | [] => (n, h + 1)
  | k :: ks =>
    if n + (partT (left - n) (high - 1) k).1 > left ∨ (if (partT (left - n) (high - 1) k).2 > h then (partT (left - n) (high - 1) k).2 else h) ≥ high then (1073741824, 1073741824)
    else partK left high (n + (partT (left - n) (high - 1) k).1) (if (partT (left - n) (high - 1) k).2 > h then (partT (left - n) (high - 1) k).2 else h) ks
end

end Go.Proofs.Ytooaiddfokbffaa.E

/- Whether a term has its forms, as the reference asks it; its check and its size. Conditions: none. -/
set_option linter.unusedVariables false
set_option linter.unusedSimpArgs false
namespace Go.Proofs.Ytooaiddfokbffaa.E
open Go Go.Proofs
attribute [local go_sem] s_seq s_ops s_draw s_block s_skip s_ret s_exit i_nil i_cons i_run i_runG s_condQ c_true c_false aop ev_t ev_c updO_at updO_no upd_at t_normal t_ret t_exit b_normal b_ret b_exit a_some ac_v ac_agg ac_ptr ac_slc ac_ro ac_rop ac_fn new_next set_next argTm_zero argTm_succ argTm_nil ab_bool ab_uv beq_self_eq_true Option.some_beq_some Bool.not_not beq_iff_eq decide_true decide_false Bool.not_true Bool.not_false afld aload astore apack alen_str alen_ro alen_slc alen_nil new_get set_get ite_true ite_false Option.map_some Option.bind_some ibin isShift Nat.add_zero Nat.zero_add List.length_cons List.length_nil List.drop_zero List.drop_succ_cons List.take_succ_cons List.take_zero if_true if_false setL List.set_cons_zero List.set_cons_succ List.all_cons List.all_nil one_int one_bool one_str one_nil one_ptr one_slc one_ro one_rop one_fn Bool.and_self Bool.and_true true_and and_true and_self Bool.false_eq_true post_ret post_normal resAll resOne packR Option.some.injEq exists_eq_left' List.map_cons List.map_nil List.nil_append List.append_nil List.cons_append d_nil d_cons k_nil k_cons g_op g_same g_new avBlock forall_eq' List.getElem?_cons_succ List.getElem?_cons_zero List.getElem?_nil okind gOk bne false_imp_iff forall_const imp_self implies_true true_imp_iff i_callG

/-- The reference tells whether a level is canonical. -/
def CanSpec2 (r : Lv → Bool) (l : Lv) : Prop := ∀ (vx : AV) (vs : List AV) (H : AHeap), SlR l.vars.length vx vs → VarsR l.vars vs → SCall Try.prog 132 [.agg [aint l.n, vx]] H fun x H' => x = abl (r l) ∧ H' = H
def Fine2 (r : Lv → Bool) (t : Tm) : Prop := t.lv.length ≤ 4611686018427387904 ∧ t.kids.length ≤ 4611686018427387904 ∧ ∀ l ∈ t.lv, CanSpec2 r l

theorem formF_eq (r : Lv → Bool) (f n : Int) (hid : Bool) (s : ByteArray) (lv : List Lv) (ks : List Tm) (hk : kidsF f = (ks.length : Int)) : formF r (.mk f n hid s lv ks) = if f = 1 ∨ f = 11 then decide (n ≥ 0) && decide (n ≤ 1073741824)
      else if f = 7 then headIs 6 ks
      else if f = 2 then ((lv.length : Int) == 1) && lv.all r
      else if f = 10 then !(s.data.toList == []) && decide ((s.size : Int) ≤ 60) && lv.all r
      else true := by
  simp only [formF, Tm.form, Tm.kids, Tm.n, Tm.lv, Tm.name, ne_eq, hk, not_true_eq_false, if_false]
  rfl

end Go.Proofs.Ytooaiddfokbffaa.E

/- The reference's check and size are the code's. Conditions: none. -/
set_option linter.unusedVariables false
set_option linter.unusedSimpArgs false
namespace Go.Proofs.Ytooaiddfokbffaa.E
open Go Go.Proofs
attribute [local go_sem] s_seq s_ops s_draw s_block s_skip s_ret s_exit i_nil i_cons i_run i_runG s_condQ c_true c_false aop ev_t ev_c updO_at updO_no upd_at t_normal t_ret t_exit b_normal b_ret b_exit a_some ac_v ac_agg ac_ptr ac_slc ac_ro ac_rop ac_fn new_next set_next argTm_zero argTm_succ argTm_nil ab_bool ab_uv beq_self_eq_true Option.some_beq_some Bool.not_not beq_iff_eq decide_true decide_false Bool.not_true Bool.not_false afld aload astore apack alen_str alen_ro alen_slc alen_nil new_get set_get ite_true ite_false Option.map_some Option.bind_some ibin isShift Nat.add_zero Nat.zero_add List.length_cons List.length_nil List.drop_zero List.drop_succ_cons List.take_succ_cons List.take_zero if_true if_false setL List.set_cons_zero List.set_cons_succ List.all_cons List.all_nil one_int one_bool one_str one_nil one_ptr one_slc one_ro one_rop one_fn Bool.and_self Bool.and_true true_and and_true and_self Bool.false_eq_true post_ret post_normal resAll resOne packR Option.some.injEq exists_eq_left' List.map_cons List.map_nil List.nil_append List.append_nil List.cons_append d_nil d_cons k_nil k_cons g_op g_same g_new avBlock forall_eq' List.getElem?_cons_succ List.getElem?_cons_zero List.getElem?_nil okind gOk bne false_imp_iff forall_const imp_self implies_true true_imp_iff i_callG

def check2F (r : Lv → Bool) (t : Tm) : Int := if (partT 20000 500 t).1 > 20000 ∨ (partT 20000 500 t).2 > 500 then 2 else if allF (formF r) t = false then 10 else 0
def size2F (r : Lv → Bool) (t : Tm) : Int := if check2F r t = 0 then (partT 20000 500 t).1 else 0

/-! ### The two counts are one -/
end Go.Proofs.Ytooaiddfokbffaa.E

/- Terms in blocks of one's own. Conditions: none. -/
set_option linter.unusedVariables false
set_option linter.unusedSimpArgs false
namespace Go.Proofs.Ytooaiddfokbffaa.E
open Go Go.Proofs

/-- What is there stays. -/
def Sub (H H' : AHeap) : Prop := ∀ b o, H.get b = some o → H'.get b = some o
def Wf (H : AHeap) : Prop := ∀ b o, H.get b = some o → b < H.next

theorem Sub.refl (H : AHeap) : Sub H H := fun _ _ h => h
theorem Sub.trans {H H1 H2 : AHeap} (h : Sub H H1) (k : Sub H1 H2) : Sub H H2 := fun b o hb => k b o (h b o hb)
theorem Wf.new {H : AHeap} (h : Wf H) (o : AObj) : Wf (H.new o) := fun b q hb => by
  rw [new_get] at hb
  rw [new_next]
  split at hb
  · rename_i e; omega
  · have := h b q hb; omega
theorem Wf.set {H : AHeap} (h : Wf H) {b : Nat} (hb : b < H.next) (o : AObj) : Wf (H.set b o) := fun x q hx => by
  rw [set_get] at hx
  rw [set_next]
  split at hx
  · rename_i e; omega
  · exact h x q hx
theorem Sub.new {H : AHeap} (h : Wf H) (o : AObj) : Sub H (H.new o) := fun b q hb => by
  rw [new_get, if_neg (by have := h b q hb; omega)]
  exact hb
theorem Wf.empty : Wf AHeap.empty := fun b o h => by cases h

theorem Frz.mono {H H' : AHeap} (hs : Sub H H') {x y : AV} (h : Frz H x y) : Frz H' x y := by
  induction h with
  | v x => exact .v x
  | slc b off es len lo ex l cs g hb hg hz ih => exact .slc b off es len lo ex l cs g (hs b _ hb) hg ih
  | ptr b off l cs hb hn hz ih => exact .ptr b off l cs (hs b _ hb) hn ih
  | ro len lo ex l cs hn hz ih => exact .ro len lo ex l cs hn ih
  | fn f a b a' b' hn hn' h1 h2 ih1 ih2 => exact .fn f a b a' b' hn hn' ih1 ih2
  | agg l cs hn hz ih => exact .agg l cs hn ih

/-- Cells that are frozen, one by one. -/
def FrzL (H : AHeap) (xs ys : List AV) : Prop := ys.length = xs.length ∧ ∀ (i : Nat) (x y : AV), xs[i]? = some x → ys[i]? = some y → Frz H x y

theorem FrzL.mono {H H' : AHeap} (hs : Sub H H') {xs ys : List AV} (h : FrzL H xs ys) : FrzL H' xs ys := ⟨h.1, fun i x y h1 h2 => (h.2 i x y h1 h2).mono hs⟩
theorem FrzL.nil (H : AHeap) : FrzL H [] [] := ⟨rfl, fun i x y h => by simp at h⟩
theorem FrzL.cons {H : AHeap} {x y : AV} {xs ys : List AV} (h : Frz H x y) (k : FrzL H xs ys) : FrzL H (x :: xs) (y :: ys) := by
  refine ⟨by simp [k.1], fun i a b h1 h2 => ?_⟩
  cases i with
  | zero => simp at h1 h2; subst h1 h2; exact h
  | succ i => exact k.2 i a b (by simpa using h1) (by simpa using h2)
theorem FrzL.append {H : AHeap} {xs ys xs' ys' : List AV} (h : FrzL H xs ys) (k : FrzL H xs' ys') : FrzL H (xs ++ xs') (ys ++ ys') := by
  refine ⟨by simp [h.1, k.1], fun i a b h1 h2 => ?_⟩
  rcases Nat.lt_or_ge i xs.length with hi | hi
  · rw [List.getElem?_append_left hi] at h1
    rw [List.getElem?_append_left (by rw [h.1]; exact hi)] at h2
    exact h.2 i a b h1 h2
  · rw [List.getElem?_append_right hi] at h1
    rw [List.getElem?_append_right (by rw [h.1]; exact hi), h.1] at h2
    exact k.2 _ a b h1 h2

/-- A slice of a whole block of one's own, frozen. -/
theorem Frz.block {H : AHeap} {b : Nat} {l cs : List AV} (hb : H.get b = some (.cells l)) (h : FrzL H l cs) (es len lo : Nat) (ex : Bool) : Frz H (.slc b 0 es len lo ex) (.ro len lo ex cs) := by
  refine .slc b 0 es len lo ex l cs (fun i => l.getD i uv) hb (fun i y hy => ?_) (fun i y hy => ?_)
  · have hi : i < l.length := by rw [← h.1]; exact (List.getElem?_eq_some_iff.1 hy).1
    rw [Nat.zero_add, List.getElem?_eq_getElem hi]
    simp [hi]
  · have hi : i < l.length := by rw [← h.1]; exact (List.getElem?_eq_some_iff.1 hy).1
    refine h.2 i _ y ?_ hy
    rw [List.getElem?_eq_getElem hi]
    simp [hi]

def Rep (H : AHeap) (cells : List AV) (t : Tm) : Prop := ∃ ys, FrzL H cells ys ∧ TmR t ys

theorem Rep.mono {H H' : AHeap} (hs : Sub H H') {cells : List AV} {t : Tm} (h : Rep H cells t) : Rep H' cells t := let ⟨ys, h1, h2⟩ := h; ⟨ys, h1.mono hs, h2⟩

/-- A call that reads a term of one's own, and answers with a plain value. -/
theorem Rep.call {f : FuncId} {R : AV → Prop} {H G : AHeap} {cells : List AV} {t : Tm} (hr : Rep G cells t) (hG : Sub G H) (hs : ∀ x, R x → ∃ v, x = .v v)
    (h : ∀ ys, TmR t ys → SCall Try.prog f [.agg ys] AHeap.empty fun x H' => R x ∧ H' = AHeap.empty) : SCall Try.prog f [.agg cells] H fun x H' => R x ∧ H' = H := by
  obtain ⟨ys, h1, h2⟩ := hr.mono hG
  refine SCall.frame ((h ys h2).mono fun x H' hx => hx.1) hs fun e w us hH hL => ?_
  exact frz_list (args := [.agg cells]) (args' := [.agg ys]) rfl (fun i x y hx hy => by
    cases i with
    | zero => simp at hx hy; subst hx hy; exact .agg _ _ h1.1 h1.2
    | succ i => simp at hx) hH hL

def setTm : Tm := .mk 2 0 false (ByteArray.mk #[]) [⟨0, []⟩] []
def fstTm (t : Tm) : Tm := .mk 8 0 false (ByteArray.mk #[]) [] [t]
def appTm (a b : Tm) : Tm := .mk 5 0 false (ByteArray.mk #[]) [] [a, b]

abbrev nils : AV := .v (.slice none 0 0)
abbrev nostr : AV := .v (.string (ByteArray.mk #[]))

theorem FrzL.plain (H : AHeap) : FrzL H [aint 0, nils] [aint 0, nils] := FrzL.cons (.v _) (FrzL.cons (.v _) (FrzL.nil H))

theorem FrzL.len {H : AHeap} {xs ys : List AV} (h : FrzL H xs ys) : ys.length = xs.length := h.1

theorem Rep.len {H : AHeap} {cells : List AV} {t : Tm} (h : Rep H cells t) : cells.length = 6 := by
  obtain ⟨ys, h1, h2⟩ := h
  rw [← h1.1, h2.len]

/-- Cells of a term, one by one, none of them more than one. -/
theorem Rep.six {H : AHeap} {cells : List AV} {t : Tm} (h : Rep H cells t) : ∃ a b c d e f, cells = [a, b, c, d, e, f] ∧ a.one = true ∧ b.one = true ∧ c.one = true ∧ d.one = true ∧ e.one = true ∧ f.one = true := by
  have hl := h.len
  obtain ⟨ys, h1, h2⟩ := h
  obtain ⟨lx, kx, ls, cs, rfl, hl1, _, hk1, _⟩ := h2.six
  match cells, hl with
  | [a, b, c, d, e, f], _ =>
    have key : ∀ {x y : AV}, Frz H x y → y.one = true → x.one = true := fun {x y} hz hy => by
      cases hz <;> first | exact hy | rfl
    exact ⟨a, b, c, d, e, f, rfl, key (h1.2 0 _ _ rfl rfl) rfl, key (h1.2 1 _ _ rfl rfl) rfl, key (h1.2 2 _ _ rfl rfl) rfl, key (h1.2 3 _ _ rfl rfl) rfl, key (h1.2 4 _ _ rfl rfl) hl1.one, key (h1.2 5 _ _ rfl rfl) hk1.one⟩

end Go.Proofs.Ytooaiddfokbffaa.E
