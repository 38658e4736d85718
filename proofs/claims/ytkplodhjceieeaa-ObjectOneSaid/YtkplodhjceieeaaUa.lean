/-
  The small words of the functions about the pool.
-/
import Derived.Test.YtkplodhjceieeaaUs
namespace Go.Proofs.Ytkplodhjceieeaa
open Go Go.Ideal

def t8f : GC :=
 (.seq (.ops [.grp none [⟨some 60, none, .move (.tmp 7), []⟩, ⟨some 61, none, .move (.tmp 5), []⟩, ⟨some 62, none, .call 32 #[.tmp 61], []⟩, ⟨some 63, none, .call 28 #[.tmp 60, .tmp 62], []⟩, ⟨some 4, none, .move (.tmp 63), []⟩]]) .ret)
def t8 : GC :=
 (.seq (.ops [.grp none [⟨some 46, none, .move (.tmp 5), []⟩, ⟨some 47, none, .move (.tmp 1), []⟩, ⟨some 48, none, .call 34 #[.tmp 46, .tmp 47], []⟩, ⟨some 45, none, .move (.tmp 48), []⟩, ⟨some 49, none, .extract (.tmp 45) 0, []⟩, ⟨some 50, none, .extract (.tmp 45) 1, []⟩, ⟨some 10, none, .move (.tmp 49), []⟩, ⟨some 11, none, .move (.tmp 50), []⟩]]) 
 (.seq 
 (.seq (.ops [.grp none [⟨some 51, none, .move (.tmp 11), []⟩, ⟨some 52, none, .bin .eql 27 (.tmp 51) (.const (.int .i64 0)), []⟩]]) 
 (.cond (.tmp 52) 
 (.seq 
 (.seq (.ops [.grp none [⟨some 53, none, .move (.tmp 10), []⟩, ⟨some 54, none, .move (.tmp 7), []⟩, ⟨some 55, none, .iaddr 1 (.tmp 54) (.const (.int .i64 0)), []⟩, ⟨some 56, none, .load none (.tmp 55), []⟩, ⟨some 57, none, .bin .neq 3 (.tmp 53) (.tmp 56), []⟩]]) 
 (.cond (.tmp 57) 
 (.seq (.ops [.grp none [⟨some 4, none, .move (.const (.bool false)), []⟩]]) .ret) .skip)) (.ops [.grp none [⟨some 58, none, .move (.tmp 7), []⟩, ⟨some 59, none, .slice 3 1 (.tmp 58) (some (.const (.int .i64 1))) none none, []⟩, ⟨some 7, none, .move (.tmp 59), []⟩]])) .skip)) 
 t8f))
def g8 : GFn :=
 ⟨64, [⟨4, none⟩], .seq (.ops [.grp none [⟨some 4, none, .move (.const (.bool false)), []⟩]]) 
 (.seq (.ops [.grp none [⟨some 13, none, .move (.tmp 0), []⟩, ⟨some 14, none, .call 30 #[.tmp 13], []⟩, ⟨some 12, none, .move (.tmp 14), []⟩, ⟨some 15, none, .extract (.tmp 12) 0, []⟩, ⟨some 16, none, .extract (.tmp 12) 1, []⟩, ⟨some 5, none, .move (.tmp 15), []⟩, ⟨some 6, none, .move (.tmp 16), []⟩]]) 
 (.seq 
 (.seq (.ops [.grp none [⟨some 17, none, .move (.tmp 5), []⟩, ⟨some 18, none, .bin .eql 54 (.tmp 17) (.const (.pointer none)), []⟩, ⟨some 19, none, .move (.tmp 18), []⟩],
  .grp (some (some 19, false)) [⟨some 20, none, .call 31 #[], []⟩, ⟨some 21, none, .un .not (.tmp 20), []⟩],
  .grp none [⟨some 22, none, .pick (.tmp 19) (.const (.bool true)) (.tmp 21), []⟩]]) 
 (.cond (.tmp 22) 
 (.seq (.ops [.grp none [⟨some 4, none, .move (.const (.bool false)), []⟩]]) .ret) .skip)) 
 (.seq (.ops [.grp none [⟨some 23, none, .move (.tmp 5), []⟩, ⟨some 24, none, .call 32 #[.tmp 23], []⟩, ⟨some 7, none, .move (.tmp 24), []⟩]]) 
 (.seq (.ops [.grp none [⟨some 26, none, .move (.tmp 5), []⟩, ⟨some 27, none, .call 33 #[.tmp 26], []⟩, ⟨some 25, none, .move (.tmp 27), []⟩, ⟨some 28, none, .extract (.tmp 25) 0, []⟩, ⟨some 29, none, .extract (.tmp 25) 1, []⟩, ⟨some 8, none, .move (.tmp 28), []⟩, ⟨some 9, none, .move (.tmp 29), []⟩]]) 
 (.seq 
 (.seq (.ops [.grp none [⟨some 30, none, .move (.tmp 9), []⟩, ⟨some 31, none, .bin .eql 27 (.tmp 30) (.const (.int .i64 0)), []⟩]]) 
 (.cond (.tmp 31) 
 (.seq 
 (.seq (.ops [.grp none [⟨some 32, none, .move (.tmp 8), []⟩, ⟨some 33, none, .move (.tmp 7), []⟩, ⟨some 34, none, .move (.tmp 7), []⟩, ⟨some 35, none, .len (.tmp 34), []⟩, ⟨some 36, none, .bin .sub 3 (.tmp 35) (.const (.int .i64 1)), []⟩, ⟨some 37, none, .iaddr 1 (.tmp 33) (.tmp 36), []⟩, ⟨some 38, none, .load none (.tmp 37), []⟩, ⟨some 39, none, .bin .neq 3 (.tmp 32) (.tmp 38), []⟩]]) 
 (.cond (.tmp 39) 
 (.seq (.ops [.grp none [⟨some 4, none, .move (.const (.bool false)), []⟩]]) .ret) .skip)) (.ops [.grp none [⟨some 40, none, .move (.tmp 7), []⟩, ⟨some 41, none, .move (.tmp 7), []⟩, ⟨some 42, none, .len (.tmp 41), []⟩, ⟨some 43, none, .bin .sub 3 (.tmp 42) (.const (.int .i64 1)), []⟩, ⟨some 44, none, .slice 3 1 (.tmp 40) none (some (.tmp 43)) none, []⟩, ⟨some 7, none, .move (.tmp 44), []⟩]])) .skip)) 
 t8)))))⟩
theorem low8 : lowG Try.prog 8 = some g8 := by kernel_rfl

def g9 : GFn :=
 ⟨107, [⟨4, none⟩], .seq (.ops [.grp none [⟨some 4, none, .move (.const (.bool false)), []⟩]]) 
 (.seq (.ops [.grp none [⟨some 15, none, .move (.tmp 0), []⟩, ⟨some 16, none, .call 30 #[.tmp 15], []⟩, ⟨some 14, none, .move (.tmp 16), []⟩, ⟨some 17, none, .extract (.tmp 14) 0, []⟩, ⟨some 18, none, .extract (.tmp 14) 1, []⟩, ⟨some 5, none, .move (.tmp 17), []⟩, ⟨some 6, none, .move (.tmp 18), []⟩]]) 
 (.seq 
 (.seq (.ops [.grp none [⟨some 19, none, .move (.tmp 5), []⟩, ⟨some 20, none, .bin .eql 54 (.tmp 19) (.const (.pointer none)), []⟩, ⟨some 21, none, .move (.tmp 20), []⟩],
  .grp (some (some 21, false)) [⟨some 22, none, .call 31 #[], []⟩, ⟨some 23, none, .un .not (.tmp 22), []⟩],
  .grp none [⟨some 24, none, .pick (.tmp 21) (.const (.bool true)) (.tmp 23), []⟩]]) 
 (.cond (.tmp 24) 
 (.seq (.ops [.grp none [⟨some 4, none, .move (.const (.bool false)), []⟩]]) .ret) .skip)) 
 (.seq (.ops [.grp none [⟨some 25, none, .move (.tmp 5), []⟩, ⟨some 26, none, .call 35 #[.tmp 25], []⟩, ⟨some 7, none, .move (.tmp 26), []⟩]]) 
 (.seq 
 (.seq (.ops [.grp none [⟨some 8, none, .move (.const (.int .i64 0)), []⟩]]) 
 (.block 0 
 (.loop 
 (.seq 
 (.seq (.ops [.grp none [⟨some 27, none, .move (.tmp 8), []⟩, ⟨some 28, none, .move (.tmp 1), []⟩, ⟨some 29, none, .len (.tmp 28), []⟩, ⟨some 30, none, .bin .lss 3 (.tmp 27) (.tmp 29), []⟩, ⟨some 31, none, .move (.tmp 30), []⟩],
  .grp (some (some 31, true)) [⟨some 32, none, .move (.tmp 8), []⟩, ⟨some 33, none, .bin .lss 3 (.tmp 32) (.const (.int .i64 40)), []⟩],
  .grp none [⟨some 34, none, .pick (.tmp 31) (.tmp 33) (.const (.bool false)), []⟩]]) 
 (.cond (.tmp 34) .skip (.exit 0))) 
 (.seq 
 (.block 1 
 (.seq 
 (.seq (.ops [.grp none [⟨some 37, none, .move (.tmp 1), []⟩, ⟨some 38, none, .move (.tmp 8), []⟩, ⟨some 39, none, .iaddr 4 (.tmp 37) (.tmp 38), []⟩, ⟨some 40, none, .load (some 4) (.tmp 39), []⟩, ⟨some 9, none, .zero 63 #[.int .i64 0, .int .i64 0, .int .i64 0, .bool false], []⟩, ⟨none, none, .store 4 (.tmp 9) (.tmp 40), []⟩]]) 
 (.seq (.ops [.grp none [⟨some 41, none, .faddr 0 (.tmp 9), []⟩, ⟨some 42, none, .load none (.tmp 41), []⟩, ⟨some 43, none, .bin .eql 3 (.tmp 42) (.const (.int .i64 2)), []⟩, ⟨some 44, none, .move (.tmp 43), []⟩],
  .grp (some (some 44, false)) [⟨some 45, none, .faddr 0 (.tmp 9), []⟩, ⟨some 46, none, .load none (.tmp 45), []⟩, ⟨some 47, none, .bin .eql 3 (.tmp 46) (.const (.int .i64 5)), []⟩],
  .grp none [⟨some 48, none, .pick (.tmp 44) (.const (.bool true)) (.tmp 47), []⟩, ⟨some 49, none, .move (.tmp 48), []⟩],
  .grp (some (some 49, false)) [⟨some 50, none, .faddr 0 (.tmp 9), []⟩, ⟨some 51, none, .load none (.tmp 50), []⟩, ⟨some 52, none, .bin .eql 3 (.tmp 51) (.const (.int .i64 6)), []⟩],
  .grp none [⟨some 53, none, .pick (.tmp 49) (.const (.bool true)) (.tmp 52), []⟩]]) 
 (.cond (.tmp 53) 
 (.seq (.ops [.grp none [⟨some 54, none, .faddr 0 (.tmp 9), []⟩, ⟨some 55, none, .load none (.tmp 54), []⟩, ⟨some 56, none, .bin .eql 3 (.tmp 55) (.const (.int .i64 2)), []⟩]]) 
 (.cond (.tmp 56) (.ops [.grp none [⟨some 57, none, .move (.tmp 5), []⟩, ⟨some 58, none, .call 33 #[.tmp 57], []⟩]]) (.ops [.grp none [⟨some 59, none, .move (.tmp 5), []⟩, ⟨some 60, none, .call 34 #[.tmp 59, .const (.bool false)], []⟩]]))) .skip))) 
 (.seq (.ops [.grp none [⟨some 61, none, .move (.tmp 5), []⟩, ⟨some 62, none, .call 35 #[.tmp 61], []⟩, ⟨some 63, none, .move (.tmp 7), []⟩, ⟨some 64, none, .bin .neq 3 (.tmp 62) (.tmp 63), []⟩, ⟨some 65, none, .move (.tmp 64), []⟩],
  .grp (some (some 65, false)) [⟨some 66, none, .move (.tmp 5), []⟩, ⟨some 67, none, .call 32 #[.tmp 66], []⟩, ⟨some 68, none, .len (.tmp 67), []⟩, ⟨some 69, none, .move (.tmp 7), []⟩, ⟨some 70, none, .bin .lss 3 (.tmp 68) (.tmp 69), []⟩],
  .grp none [⟨some 71, none, .pick (.tmp 65) (.const (.bool true)) (.tmp 70), []⟩]]) 
 (.cond (.tmp 71) 
 (.seq (.ops [.grp none [⟨some 4, none, .move (.const (.bool false)), []⟩]]) .ret) .skip)))) (.ops [.grp none [⟨some 35, none, .move (.tmp 8), []⟩, ⟨some 36, none, .bin .add 3 (.tmp 35) (.const (.int .i64 1)), []⟩, ⟨some 8, none, .move (.tmp 36), []⟩]])))))) 
 (.seq (.ops [.grp none [⟨some 72, none, .raw (Op.makeSlice 42 (.const (.int .i64 1024)) (.const (.int .i64 1024))) 42, []⟩, ⟨some 10, none, .move (.tmp 72), []⟩]]) 
 (.seq 
 (.seq (.ops [.grp none [⟨some 11, none, .move (.const (.int .i64 0)), []⟩]]) 
 (.block 2 
 (.loop 
 (.seq 
 (.seq (.ops [.grp none [⟨some 73, none, .move (.tmp 11), []⟩, ⟨some 74, none, .move (.tmp 7), []⟩, ⟨some 75, none, .bin .lss 3 (.tmp 73) (.tmp 74), []⟩]]) 
 (.cond (.tmp 75) .skip (.exit 2))) 
 (.seq 
 (.block 3 
 (.seq (.ops [.grp none [⟨some 79, none, .move (.tmp 5), []⟩, ⟨some 80, none, .call 34 #[.tmp 79, .const (.bool true)], []⟩, ⟨some 78, none, .move (.tmp 80), []⟩, ⟨some 81, none, .extract (.tmp 78) 0, []⟩, ⟨some 82, none, .extract (.tmp 78) 1, []⟩, ⟨some 12, none, .move (.tmp 81), []⟩, ⟨some 13, none, .move (.tmp 82), []⟩]]) 
 (.seq 
 (.seq (.ops [.grp none [⟨some 83, none, .move (.tmp 13), []⟩, ⟨some 84, none, .bin .neq 27 (.tmp 83) (.const (.int .i64 0)), []⟩, ⟨some 85, none, .move (.tmp 84), []⟩],
  .grp (some (some 85, false)) [⟨some 86, none, .move (.tmp 12), []⟩, ⟨some 87, none, .bin .lss 3 (.tmp 86) (.const (.int .i64 0)), []⟩],
  .grp none [⟨some 88, none, .pick (.tmp 85) (.const (.bool true)) (.tmp 87), []⟩, ⟨some 89, none, .move (.tmp 88), []⟩],
  .grp (some (some 89, false)) [⟨some 90, none, .move (.tmp 12), []⟩, ⟨some 91, none, .move (.tmp 10), []⟩, ⟨some 92, none, .len (.tmp 91), []⟩, ⟨some 93, none, .bin .geq 3 (.tmp 90) (.tmp 92), []⟩],
  .grp none [⟨some 94, none, .pick (.tmp 89) (.const (.bool true)) (.tmp 93), []⟩, ⟨some 95, none, .move (.tmp 94), []⟩],
  .grp (some (some 95, false)) [⟨some 96, none, .move (.tmp 10), []⟩, ⟨some 97, none, .move (.tmp 12), []⟩, ⟨some 98, none, .iaddr 1 (.tmp 96) (.tmp 97), []⟩, ⟨some 99, none, .load none (.tmp 98), []⟩],
  .grp none [⟨some 100, none, .pick (.tmp 95) (.const (.bool true)) (.tmp 99), []⟩]]) 
 (.cond (.tmp 100) 
 (.seq (.ops [.grp none [⟨some 4, none, .move (.const (.bool false)), []⟩]]) .ret) .skip)) (.ops [.grp none [⟨some 101, none, .move (.tmp 10), []⟩, ⟨some 102, none, .move (.tmp 12), []⟩, ⟨some 103, none, .iaddr 1 (.tmp 101) (.tmp 102), []⟩, ⟨none, none, .store 1 (.tmp 103) (.const (.bool true)), []⟩]])))) (.ops [.grp none [⟨some 76, none, .move (.tmp 11), []⟩, ⟨some 77, none, .bin .add 3 (.tmp 76) (.const (.int .i64 1)), []⟩, ⟨some 11, none, .move (.tmp 77), []⟩]])))))) 
 (.seq (.ops [.grp none [⟨some 104, none, .move (.tmp 5), []⟩, ⟨some 105, none, .call 35 #[.tmp 104], []⟩, ⟨some 106, none, .bin .eql 3 (.tmp 105) (.const (.int .i64 0)), []⟩, ⟨some 4, none, .move (.tmp 106), []⟩]]) .ret)))))))⟩
theorem low9 : lowG Try.prog 9 = some g9 := by kernel_rfl

def g10 : GFn :=
 ⟨131, [⟨2, none⟩], .seq (.ops [.grp none [⟨some 2, none, .move (.const (.bool false)), []⟩]]) 
 (.seq (.ops [.grp none [⟨some 16, none, .call 30 #[.const (.slice none 0 0)], []⟩, ⟨some 15, none, .move (.tmp 16), []⟩, ⟨some 17, none, .extract (.tmp 15) 0, []⟩, ⟨some 18, none, .extract (.tmp 15) 1, []⟩, ⟨some 3, none, .move (.tmp 17), []⟩, ⟨some 4, none, .move (.tmp 18), []⟩]]) 
 (.seq 
 (.seq (.ops [.grp none [⟨some 19, none, .move (.tmp 3), []⟩, ⟨some 20, none, .bin .eql 54 (.tmp 19) (.const (.pointer none)), []⟩, ⟨some 21, none, .move (.tmp 20), []⟩],
  .grp (some (some 21, false)) [⟨some 22, none, .call 31 #[], []⟩, ⟨some 23, none, .un .not (.tmp 22), []⟩],
  .grp none [⟨some 24, none, .pick (.tmp 21) (.const (.bool true)) (.tmp 23), []⟩]]) 
 (.cond (.tmp 24) 
 (.seq (.ops [.grp none [⟨some 2, none, .move (.const (.bool false)), []⟩]]) .ret) .skip)) 
 (.seq (.ops [.grp none [⟨some 5, none, .move (.const (.int .i64 0)), []⟩, ⟨some 6, none, .move (.const (.int .i64 0)), []⟩]]) 
 (.seq 
 (.seq (.ops [.grp none [⟨some 7, none, .move (.const (.int .i64 0)), []⟩]]) 
 (.block 0 
 (.loop 
 (.seq 
 (.seq (.ops [.grp none [⟨some 25, none, .move (.tmp 7), []⟩, ⟨some 26, none, .move (.tmp 0), []⟩, ⟨some 27, none, .len (.tmp 26), []⟩, ⟨some 28, none, .bin .lss 3 (.tmp 25) (.tmp 27), []⟩, ⟨some 29, none, .move (.tmp 28), []⟩],
  .grp (some (some 29, true)) [⟨some 30, none, .move (.tmp 7), []⟩, ⟨some 31, none, .bin .lss 3 (.tmp 30) (.const (.int .i64 60)), []⟩],
  .grp none [⟨some 32, none, .pick (.tmp 29) (.tmp 31) (.const (.bool false)), []⟩]]) 
 (.cond (.tmp 32) .skip (.exit 0))) 
 (.seq 
 (.block 1 
 (.seq (.ops [.grp none [⟨some 35, none, .move (.tmp 0), []⟩, ⟨some 36, none, .move (.tmp 7), []⟩, ⟨some 37, none, .iaddr 4 (.tmp 35) (.tmp 36), []⟩, ⟨some 38, none, .load (some 4) (.tmp 37), []⟩, ⟨some 8, none, .zero 63 #[.int .i64 0, .int .i64 0, .int .i64 0, .bool false], []⟩, ⟨none, none, .store 4 (.tmp 8) (.tmp 38), []⟩]]) 
 (.seq 
 (.seq (.ops [.grp none [⟨some 39, none, .faddr 0 (.tmp 8), []⟩, ⟨some 40, none, .load none (.tmp 39), []⟩]]) 
 (.block 2 
 (.seq 
 (.seq (.ops [.grp none [⟨some 58, none, .bin .eql 3 (.tmp 40) (.const (.int .i64 0)), []⟩, ⟨some 57, none, .move (.tmp 58), []⟩]]) 
 (.cond (.tmp 57) .skip (.ops [.grp none [⟨some 59, none, .bin .eql 3 (.tmp 40) (.const (.int .i64 1)), []⟩, ⟨some 57, none, .move (.tmp 59), []⟩]]))) 
 (.cond (.tmp 57) 
 (.seq (.ops [.grp none [⟨some 60, none, .move (.tmp 3), []⟩, ⟨some 61, none, .faddr 1 (.tmp 8), []⟩, ⟨some 62, none, .load none (.tmp 61), []⟩, ⟨some 63, none, .call 36 #[.tmp 60, .tmp 62], []⟩, ⟨some 64, none, .bin .eql 27 (.tmp 63) (.const (.int .i64 0)), []⟩]]) 
 (.cond (.tmp 64) (.ops [.grp none [⟨some 65, none, .move (.tmp 5), []⟩, ⟨some 66, none, .bin .add 3 (.tmp 65) (.const (.int .i64 1)), []⟩, ⟨some 5, none, .move (.tmp 66), []⟩]]) .skip)) 
 (.seq (.ops [.grp none [⟨some 68, none, .bin .eql 3 (.tmp 40) (.const (.int .i64 2)), []⟩, ⟨some 67, none, .move (.tmp 68), []⟩]]) 
 (.cond (.tmp 67) 
 (.seq (.ops [.grp none [⟨some 70, none, .move (.tmp 3), []⟩, ⟨some 71, none, .call 33 #[.tmp 70], []⟩, ⟨some 69, none, .move (.tmp 71), []⟩, ⟨some 72, none, .extract (.tmp 69) 0, []⟩, ⟨some 73, none, .extract (.tmp 69) 1, []⟩, ⟨some 9, none, .move (.tmp 72), []⟩, ⟨some 10, none, .move (.tmp 73), []⟩]]) 
 (.seq (.ops [.grp none [⟨some 74, none, .move (.tmp 10), []⟩, ⟨some 75, none, .bin .eql 27 (.tmp 74) (.const (.int .i64 0)), []⟩]]) 
 (.cond (.tmp 75) (.ops [.grp none [⟨some 76, none, .move (.tmp 5), []⟩, ⟨some 77, none, .bin .sub 3 (.tmp 76) (.const (.int .i64 1)), []⟩, ⟨some 5, none, .move (.tmp 77), []⟩]]) .skip))) 
 (.seq 
 (.seq (.ops [.grp none [⟨some 79, none, .bin .eql 3 (.tmp 40) (.const (.int .i64 5)), []⟩, ⟨some 78, none, .move (.tmp 79), []⟩]]) 
 (.cond (.tmp 78) .skip (.ops [.grp none [⟨some 80, none, .bin .eql 3 (.tmp 40) (.const (.int .i64 6)), []⟩, ⟨some 78, none, .move (.tmp 80), []⟩]]))) 
 (.cond (.tmp 78) 
 (.seq (.ops [.grp none [⟨some 82, none, .move (.tmp 3), []⟩, ⟨some 83, none, .faddr 3 (.tmp 8), []⟩, ⟨some 84, none, .load none (.tmp 83), []⟩, ⟨some 85, none, .call 34 #[.tmp 82, .tmp 84], []⟩, ⟨some 81, none, .move (.tmp 85), []⟩, ⟨some 86, none, .extract (.tmp 81) 0, []⟩, ⟨some 87, none, .extract (.tmp 81) 1, []⟩, ⟨some 11, none, .move (.tmp 86), []⟩, ⟨some 12, none, .move (.tmp 87), []⟩]]) 
 (.seq (.ops [.grp none [⟨some 88, none, .move (.tmp 12), []⟩, ⟨some 89, none, .bin .eql 27 (.tmp 88) (.const (.int .i64 0)), []⟩]]) 
 (.cond (.tmp 89) (.ops [.grp none [⟨some 90, none, .move (.tmp 6), []⟩, ⟨some 91, none, .bin .add 3 (.tmp 90) (.const (.int .i64 1)), []⟩, ⟨some 6, none, .move (.tmp 91), []⟩]]) .skip))) 
 (.seq (.ops [.grp none [⟨some 93, none, .bin .eql 3 (.tmp 40) (.const (.int .i64 7)), []⟩, ⟨some 92, none, .move (.tmp 93), []⟩]]) 
 (.cond (.tmp 92) 
 (.seq (.ops [.grp none [⟨some 94, none, .move (.tmp 3), []⟩, ⟨some 95, none, .faddr 1 (.tmp 8), []⟩, ⟨some 96, none, .load none (.tmp 95), []⟩, ⟨some 97, none, .call 37 #[.tmp 94, .tmp 96], []⟩, ⟨some 98, none, .bin .eql 27 (.tmp 97) (.const (.int .i64 0)), []⟩]]) 
 (.cond (.tmp 98) (.ops [.grp none [⟨some 99, none, .move (.tmp 5), []⟩, ⟨some 100, none, .bin .add 3 (.tmp 99) (.const (.int .i64 1)), []⟩, ⟨some 101, none, .move (.tmp 6), []⟩, ⟨some 102, none, .bin .add 3 (.tmp 101) (.const (.int .i64 1)), []⟩, ⟨some 5, none, .move (.tmp 100), []⟩, ⟨some 6, none, .move (.tmp 102), []⟩]]) .skip)) 
 (.seq 
 (.seq (.ops [.grp none [⟨some 104, none, .bin .eql 3 (.tmp 40) (.const (.int .i64 3)), []⟩, ⟨some 103, none, .move (.tmp 104), []⟩]]) 
 (.cond (.tmp 103) .skip (.ops [.grp none [⟨some 105, none, .bin .eql 3 (.tmp 40) (.const (.int .i64 4)), []⟩, ⟨some 103, none, .move (.tmp 105), []⟩]]))) 
 (.cond (.tmp 103) (.ops [.grp none [⟨some 106, none, .move (.tmp 3), []⟩, ⟨some 107, none, .move (.tmp 4), []⟩, ⟨some 108, none, .load (some 4) (.tmp 8), []⟩, ⟨some 109, none, .call 38 #[.tmp 106, .tmp 107, .tmp 108], []⟩]]) 
 (.seq (.ops [.grp none [⟨some 42, none, .move (.tmp 3), []⟩, ⟨some 43, none, .faddr 1 (.tmp 8), []⟩, ⟨some 44, none, .load none (.tmp 43), []⟩, ⟨some 45, none, .faddr 3 (.tmp 8), []⟩, ⟨some 46, none, .load none (.tmp 45), []⟩, ⟨some 47, none, .call 39 #[.tmp 42, .tmp 44, .tmp 46], []⟩, ⟨some 41, none, .move (.tmp 47), []⟩, ⟨some 48, none, .extract (.tmp 41) 0, []⟩, ⟨some 49, none, .extract (.tmp 41) 1, []⟩, ⟨some 13, none, .move (.tmp 48), []⟩, ⟨some 14, none, .move (.tmp 49), []⟩]]) 
 (.seq 
 (.seq (.ops [.grp none [⟨some 50, none, .move (.tmp 14), []⟩, ⟨some 51, none, .bin .eql 27 (.tmp 50) (.const (.int .i64 0)), []⟩]]) 
 (.cond (.tmp 51) (.ops [.grp none [⟨some 52, none, .move (.tmp 6), []⟩, ⟨some 53, none, .bin .sub 3 (.tmp 52) (.const (.int .i64 1)), []⟩, ⟨some 6, none, .move (.tmp 53), []⟩]]) .skip)) 
 (.seq (.ops [.grp none [⟨some 54, none, .move (.tmp 13), []⟩]]) 
 (.cond (.tmp 54) (.ops [.grp none [⟨some 55, none, .move (.tmp 5), []⟩, ⟨some 56, none, .bin .sub 3 (.tmp 55) (.const (.int .i64 1)), []⟩, ⟨some 5, none, .move (.tmp 56), []⟩]]) .skip)))))))))))))))) 
 (.seq (.ops [.grp none [⟨some 110, none, .move (.tmp 3), []⟩, ⟨some 111, none, .call 40 #[.tmp 110], []⟩, ⟨some 112, none, .move (.tmp 5), []⟩, ⟨some 113, none, .bin .neq 3 (.tmp 111) (.tmp 112), []⟩, ⟨some 114, none, .move (.tmp 113), []⟩],
  .grp (some (some 114, false)) [⟨some 115, none, .move (.tmp 3), []⟩, ⟨some 116, none, .call 32 #[.tmp 115], []⟩, ⟨some 117, none, .len (.tmp 116), []⟩, ⟨some 118, none, .move (.tmp 5), []⟩, ⟨some 119, none, .move (.tmp 6), []⟩, ⟨some 120, none, .bin .sub 3 (.tmp 118) (.tmp 119), []⟩, ⟨some 121, none, .bin .neq 3 (.tmp 117) (.tmp 120), []⟩],
  .grp none [⟨some 122, none, .pick (.tmp 114) (.const (.bool true)) (.tmp 121), []⟩, ⟨some 123, none, .move (.tmp 122), []⟩],
  .grp (some (some 123, false)) [⟨some 124, none, .move (.tmp 3), []⟩, ⟨some 125, none, .call 35 #[.tmp 124], []⟩, ⟨some 126, none, .move (.tmp 3), []⟩, ⟨some 127, none, .call 32 #[.tmp 126], []⟩, ⟨some 128, none, .len (.tmp 127), []⟩, ⟨some 129, none, .bin .gtr 3 (.tmp 125) (.tmp 128), []⟩],
  .grp none [⟨some 130, none, .pick (.tmp 123) (.const (.bool true)) (.tmp 129), []⟩]]) 
 (.cond (.tmp 130) 
 (.seq (.ops [.grp none [⟨some 2, none, .move (.const (.bool false)), []⟩]]) .ret) .skip))))) (.ops [.grp none [⟨some 33, none, .move (.tmp 7), []⟩, ⟨some 34, none, .bin .add 3 (.tmp 33) (.const (.int .i64 1)), []⟩, ⟨some 7, none, .move (.tmp 34), []⟩]])))))) 
 (.seq (.ops [.grp none [⟨some 2, none, .move (.const (.bool true)), []⟩]]) .ret)))))⟩
theorem low10 : lowG Try.prog 10 = some g10 := by kernel_rfl

def g11 : GFn :=
 ⟨57, [⟨2, none⟩], .seq (.ops [.grp none [⟨some 2, none, .move (.const (.bool false)), []⟩]]) 
 (.seq (.ops [.grp none [⟨some 11, none, .move (.tmp 0), []⟩, ⟨some 12, none, .call 30 #[.tmp 11], []⟩, ⟨some 10, none, .move (.tmp 12), []⟩, ⟨some 13, none, .extract (.tmp 10) 0, []⟩, ⟨some 14, none, .extract (.tmp 10) 1, []⟩, ⟨some 3, none, .move (.tmp 13), []⟩, ⟨some 4, none, .move (.tmp 14), []⟩]]) 
 (.seq 
 (.seq (.ops [.grp none [⟨some 15, none, .move (.tmp 3), []⟩, ⟨some 16, none, .bin .eql 54 (.tmp 15) (.const (.pointer none)), []⟩, ⟨some 17, none, .move (.tmp 16), []⟩],
  .grp (some (some 17, false)) [⟨some 18, none, .call 31 #[], []⟩, ⟨some 19, none, .un .not (.tmp 18), []⟩],
  .grp none [⟨some 20, none, .pick (.tmp 17) (.const (.bool true)) (.tmp 19), []⟩]]) 
 (.cond (.tmp 20) 
 (.seq (.ops [.grp none [⟨some 2, none, .move (.const (.bool false)), []⟩]]) .ret) .skip)) 
 (.seq (.ops [.grp none [⟨some 21, none, .move (.tmp 3), []⟩, ⟨some 22, none, .call 35 #[.tmp 21], []⟩, ⟨some 23, none, .move (.tmp 3), []⟩, ⟨some 24, none, .call 40 #[.tmp 23], []⟩, ⟨some 25, none, .move (.tmp 3), []⟩, ⟨some 26, none, .call 32 #[.tmp 25], []⟩, ⟨some 27, none, .len (.tmp 26), []⟩, ⟨some 28, none, .bin .sub 3 (.tmp 24) (.tmp 27), []⟩, ⟨some 5, none, .move (.tmp 22), []⟩, ⟨some 6, none, .move (.tmp 28), []⟩]]) 
 (.seq 
 (.seq (.ops [.grp none [⟨some 7, none, .move (.const (.int .i64 0)), []⟩]]) 
 (.block 0 
 (.loop 
 (.seq 
 (.seq (.ops [.grp none [⟨some 29, none, .move (.tmp 7), []⟩, ⟨some 30, none, .bin .lss 3 (.tmp 29) (.const (.int .i64 200)), []⟩]]) 
 (.cond (.tmp 30) .skip (.exit 0))) 
 (.seq 
 (.block 1 
 (.seq (.ops [.grp none [⟨some 34, none, .move (.tmp 3), []⟩, ⟨some 35, none, .call 33 #[.tmp 34], []⟩, ⟨some 33, none, .move (.tmp 35), []⟩, ⟨some 36, none, .extract (.tmp 33) 0, []⟩, ⟨some 37, none, .extract (.tmp 33) 1, []⟩, ⟨some 8, none, .move (.tmp 36), []⟩, ⟨some 9, none, .move (.tmp 37), []⟩]]) 
 (.seq (.ops [.grp none [⟨some 38, none, .move (.tmp 9), []⟩, ⟨some 39, none, .bin .neq 27 (.tmp 38) (.const (.int .i64 0)), []⟩]]) 
 (.cond (.tmp 39) 
 (.seq (.ops [.grp none [⟨some 40, none, .move (.tmp 9), []⟩, ⟨some 41, none, .bin .eql 27 (.tmp 40) (.const (.int .i64 12)), []⟩, ⟨some 42, none, .move (.tmp 41), []⟩],
  .grp (some (some 42, true)) [⟨some 43, none, .move (.tmp 3), []⟩, ⟨some 44, none, .call 32 #[.tmp 43], []⟩, ⟨some 45, none, .len (.tmp 44), []⟩, ⟨some 46, none, .move (.tmp 5), []⟩, ⟨some 47, none, .bin .eql 3 (.tmp 45) (.tmp 46), []⟩],
  .grp none [⟨some 48, none, .pick (.tmp 42) (.tmp 47) (.const (.bool false)), []⟩, ⟨some 49, none, .move (.tmp 48), []⟩],
  .grp (some (some 49, true)) [⟨some 50, none, .move (.tmp 3), []⟩, ⟨some 51, none, .call 40 #[.tmp 50], []⟩, ⟨some 52, none, .move (.tmp 5), []⟩, ⟨some 53, none, .move (.tmp 6), []⟩, ⟨some 54, none, .bin .add 3 (.tmp 52) (.tmp 53), []⟩, ⟨some 55, none, .bin .eql 3 (.tmp 51) (.tmp 54), []⟩],
  .grp none [⟨some 56, none, .pick (.tmp 49) (.tmp 55) (.const (.bool false)), []⟩, ⟨some 2, none, .move (.tmp 56), []⟩]]) .ret) .skip)))) (.ops [.grp none [⟨some 31, none, .move (.tmp 7), []⟩, ⟨some 32, none, .bin .add 3 (.tmp 31) (.const (.int .i64 1)), []⟩, ⟨some 7, none, .move (.tmp 32), []⟩]])))))) 
 (.seq (.ops [.grp none [⟨some 2, none, .move (.const (.bool false)), []⟩]]) .ret)))))⟩
theorem low11 : lowG Try.prog 11 = some g11 := by kernel_rfl

def g12 : GFn :=
 ⟨94, [⟨6, none⟩], .seq (.ops [.grp none [⟨some 6, none, .move (.const (.bool false)), []⟩]]) 
 (.seq (.ops [.grp none [⟨some 13, none, .move (.tmp 0), []⟩, ⟨some 14, none, .move (.tmp 1), []⟩, ⟨some 15, none, .call 41 #[.tmp 13, .tmp 14], []⟩, ⟨some 12, none, .move (.tmp 15), []⟩, ⟨some 16, none, .extract (.tmp 12) 0, []⟩, ⟨some 17, none, .extract (.tmp 12) 1, []⟩, ⟨some 7, none, .move (.tmp 16), []⟩, ⟨some 8, none, .move (.tmp 17), []⟩]]) 
 (.seq (.ops [.grp none [⟨some 19, none, .move (.tmp 0), []⟩, ⟨some 20, none, .move (.tmp 1), []⟩, ⟨some 21, none, .call 42 #[.tmp 19, .tmp 20], []⟩, ⟨some 18, none, .move (.tmp 21), []⟩, ⟨some 22, none, .extract (.tmp 18) 0, []⟩, ⟨some 23, none, .extract (.tmp 18) 1, []⟩, ⟨some 9, none, .move (.tmp 22), []⟩, ⟨some 10, none, .move (.tmp 23), []⟩]]) 
 (.seq 
 (.seq (.ops [.grp none [⟨some 24, none, .move (.tmp 8), []⟩, ⟨some 25, none, .move (.tmp 10), []⟩, ⟨some 26, none, .bin .neq 27 (.tmp 24) (.tmp 25), []⟩, ⟨some 27, none, .move (.tmp 26), []⟩],
  .grp (some (some 27, false)) [⟨some 28, none, .move (.tmp 7), []⟩, ⟨some 29, none, .bin .eql 54 (.tmp 28) (.const (.pointer none)), []⟩, ⟨some 30, none, .move (.tmp 9), []⟩, ⟨some 31, none, .bin .eql 55 (.tmp 30) (.const (.pointer none)), []⟩, ⟨some 32, none, .bin .neq 4 (.tmp 29) (.tmp 31), []⟩],
  .grp none [⟨some 33, none, .pick (.tmp 27) (.const (.bool true)) (.tmp 32), []⟩, ⟨some 34, none, .move (.tmp 33), []⟩],
  .grp (some (some 34, false)) [⟨some 35, none, .call 31 #[], []⟩, ⟨some 36, none, .un .not (.tmp 35), []⟩],
  .grp none [⟨some 37, none, .pick (.tmp 34) (.const (.bool true)) (.tmp 36), []⟩]]) 
 (.cond (.tmp 37) 
 (.seq (.ops [.grp none [⟨some 6, none, .move (.const (.bool false)), []⟩]]) .ret) .skip)) 
 (.seq 
 (.seq (.ops [.grp none [⟨some 38, none, .move (.tmp 9), []⟩, ⟨some 39, none, .bin .eql 55 (.tmp 38) (.const (.pointer none)), []⟩]]) 
 (.cond (.tmp 39) 
 (.seq (.ops [.grp none [⟨some 6, none, .move (.const (.bool true)), []⟩]]) .ret) .skip)) 
 (.seq 
 (.seq (.ops [.grp none [⟨some 11, none, .move (.const (.int .i64 0)), []⟩]]) 
 (.block 0 
 (.loop 
 (.seq 
 (.seq (.ops [.grp none [⟨some 40, none, .move (.tmp 11), []⟩, ⟨some 41, none, .move (.tmp 2), []⟩, ⟨some 42, none, .len (.tmp 41), []⟩, ⟨some 43, none, .bin .lss 3 (.tmp 40) (.tmp 42), []⟩, ⟨some 44, none, .move (.tmp 43), []⟩],
  .grp (some (some 44, true)) [⟨some 45, none, .move (.tmp 11), []⟩, ⟨some 46, none, .bin .lss 3 (.tmp 45) (.const (.int .i64 60)), []⟩],
  .grp none [⟨some 47, none, .pick (.tmp 44) (.tmp 46) (.const (.bool false)), []⟩]]) 
 (.cond (.tmp 47) .skip (.exit 0))) 
 (.seq 
 (.block 1 
 (.seq (.ops [.grp none [⟨some 50, none, .move (.tmp 7), []⟩, ⟨some 51, none, .move (.tmp 9), []⟩, ⟨some 52, none, .move (.tmp 2), []⟩, ⟨some 53, none, .move (.tmp 11), []⟩, ⟨some 54, none, .iaddr 4 (.tmp 52) (.tmp 53), []⟩, ⟨some 55, none, .load (some 4) (.tmp 54), []⟩, ⟨some 56, none, .call 38 #[.tmp 50, .tmp 51, .tmp 55], []⟩, ⟨some 57, none, .un .not (.tmp 56), []⟩, ⟨some 58, none, .move (.tmp 57), []⟩],
  .grp (some (some 58, false)) [⟨some 59, none, .move (.tmp 7), []⟩, ⟨some 61, none, .move (.tmp 9), []⟩, ⟨some 60, none, .call 32 #[.tmp 59], []⟩, ⟨some 62, none, .call 43 #[.tmp 61], []⟩, ⟨some 63, none, .call 28 #[.tmp 60, .tmp 62], []⟩, ⟨some 64, none, .un .not (.tmp 63), []⟩],
  .grp none [⟨some 65, none, .pick (.tmp 58) (.const (.bool true)) (.tmp 64), []⟩, ⟨some 66, none, .move (.tmp 65), []⟩],
  .grp (some (some 66, false)) [⟨some 67, none, .move (.tmp 7), []⟩, ⟨some 69, none, .move (.tmp 9), []⟩, ⟨some 71, none, .move (.tmp 9), []⟩, ⟨some 68, none, .call 40 #[.tmp 67], []⟩, ⟨some 70, none, .call 44 #[.tmp 69, .const (.int .i64 1)], []⟩, ⟨some 72, none, .call 44 #[.tmp 71, .const (.int .i64 2)], []⟩, ⟨some 73, none, .bin .add 3 (.tmp 70) (.tmp 72), []⟩, ⟨some 74, none, .bin .neq 3 (.tmp 68) (.tmp 73), []⟩],
  .grp none [⟨some 75, none, .pick (.tmp 66) (.const (.bool true)) (.tmp 74), []⟩, ⟨some 76, none, .move (.tmp 75), []⟩],
  .grp (some (some 76, false)) [⟨some 77, none, .move (.tmp 7), []⟩, ⟨some 79, none, .move (.tmp 9), []⟩, ⟨some 80, none, .nonnil (.tmp 79), []⟩, ⟨some 81, none, .faddr 3 (.tmp 80), []⟩, ⟨some 82, none, .load none (.tmp 81), []⟩, ⟨some 78, none, .call 35 #[.tmp 77], [⟨some 82, none, .load none (.tmp 81)⟩]⟩, ⟨some 83, none, .bin .neq 3 (.tmp 78) (.tmp 82), []⟩],
  .grp none [⟨some 84, none, .pick (.tmp 76) (.const (.bool true)) (.tmp 83), []⟩, ⟨some 85, none, .move (.tmp 84), []⟩],
  .grp (some (some 85, false)) [⟨some 86, none, .move (.tmp 7), []⟩, ⟨some 88, none, .move (.tmp 9), []⟩, ⟨some 89, none, .nonnil (.tmp 88), []⟩, ⟨some 90, none, .faddr 4 (.tmp 89), []⟩, ⟨some 91, none, .load none (.tmp 90), []⟩, ⟨some 87, none, .call 45 #[.tmp 86], [⟨some 91, none, .load none (.tmp 90)⟩]⟩, ⟨some 92, none, .bin .neq 3 (.tmp 87) (.tmp 91), []⟩],
  .grp none [⟨some 93, none, .pick (.tmp 85) (.const (.bool true)) (.tmp 92), []⟩]]) 
 (.cond (.tmp 93) 
 (.seq (.ops [.grp none [⟨some 6, none, .move (.const (.bool false)), []⟩]]) .ret) .skip))) (.ops [.grp none [⟨some 48, none, .move (.tmp 11), []⟩, ⟨some 49, none, .bin .add 3 (.tmp 48) (.const (.int .i64 1)), []⟩, ⟨some 11, none, .move (.tmp 49), []⟩]])))))) 
 (.seq (.ops [.grp none [⟨some 6, none, .move (.const (.bool true)), []⟩]]) .ret))))))⟩
theorem low12 : lowG Try.prog 12 = some g12 := by kernel_rfl

def g13 : GFn :=
 ⟨95, [⟨2, none⟩], .seq (.ops [.grp none [⟨some 1, none, .box 63 (.tmp 0), []⟩, ⟨some 2, none, .move (.const (.bool false)), []⟩]]) 
 (.seq (.ops [.grp none [⟨some 3, none, .move (.const (.pointer none)), []⟩]]) 
 (.seq (.ops [.grp none [⟨some 11, none, .move (.tmp 3), []⟩, ⟨some 12, none, .call 33 #[.tmp 11], []⟩, ⟨some 10, none, .move (.tmp 12), []⟩, ⟨some 13, none, .extract (.tmp 10) 0, []⟩, ⟨some 14, none, .extract (.tmp 10) 1, []⟩, ⟨some 4, none, .move (.tmp 13), []⟩, ⟨some 5, none, .move (.tmp 14), []⟩]]) 
 (.seq (.ops [.grp none [⟨some 16, none, .move (.tmp 3), []⟩, ⟨some 17, none, .faddr 3 (.tmp 1), []⟩, ⟨some 18, none, .load none (.tmp 17), []⟩, ⟨some 19, none, .call 34 #[.tmp 16, .tmp 18], []⟩, ⟨some 15, none, .move (.tmp 19), []⟩, ⟨some 20, none, .extract (.tmp 15) 0, []⟩, ⟨some 21, none, .extract (.tmp 15) 1, []⟩, ⟨some 6, none, .move (.tmp 20), []⟩, ⟨some 7, none, .move (.tmp 21), []⟩]]) 
 (.seq (.ops [.grp none [⟨some 23, none, .move (.tmp 3), []⟩, ⟨some 24, none, .faddr 1 (.tmp 1), []⟩, ⟨some 25, none, .load none (.tmp 24), []⟩, ⟨some 26, none, .faddr 3 (.tmp 1), []⟩, ⟨some 27, none, .load none (.tmp 26), []⟩, ⟨some 28, none, .call 39 #[.tmp 23, .tmp 25, .tmp 27], []⟩, ⟨some 22, none, .move (.tmp 28), []⟩, ⟨some 29, none, .extract (.tmp 22) 0, []⟩, ⟨some 30, none, .extract (.tmp 22) 1, []⟩, ⟨some 8, none, .move (.tmp 29), []⟩, ⟨some 9, none, .move (.tmp 30), []⟩]]) 
 (.seq (.ops [.grp none [⟨some 31, none, .call 31 #[], []⟩, ⟨some 32, none, .move (.tmp 31), []⟩],
  .grp (some (some 32, true)) [⟨some 33, none, .move (.tmp 4), []⟩, ⟨some 34, none, .move (.tmp 6), []⟩, ⟨some 35, none, .bin .add 3 (.tmp 33) (.tmp 34), []⟩, ⟨some 36, none, .move (.tmp 3), []⟩, ⟨some 37, none, .call 32 #[.tmp 36], []⟩, ⟨some 38, none, .len (.tmp 37), []⟩, ⟨some 39, none, .bin .add 3 (.tmp 35) (.tmp 38), []⟩, ⟨some 40, none, .move (.tmp 3), []⟩, ⟨some 41, none, .call 40 #[.tmp 40], []⟩, ⟨some 42, none, .bin .add 3 (.tmp 39) (.tmp 41), []⟩, ⟨some 43, none, .move (.tmp 3), []⟩, ⟨some 44, none, .call 35 #[.tmp 43], []⟩, ⟨some 45, none, .bin .add 3 (.tmp 42) (.tmp 44), []⟩, ⟨some 46, none, .move (.tmp 3), []⟩, ⟨some 47, none, .call 45 #[.tmp 46], []⟩, ⟨some 48, none, .bin .add 3 (.tmp 45) (.tmp 47), []⟩, ⟨some 49, none, .bin .eql 3 (.tmp 48) (.const (.int .i64 0)), []⟩],
  .grp none [⟨some 50, none, .pick (.tmp 32) (.tmp 49) (.const (.bool false)), []⟩, ⟨some 51, none, .move (.tmp 50), []⟩],
  .grp (some (some 51, true)) [⟨some 52, none, .move (.tmp 8), []⟩, ⟨some 53, none, .un .not (.tmp 52), []⟩],
  .grp none [⟨some 54, none, .pick (.tmp 51) (.tmp 53) (.const (.bool false)), []⟩, ⟨some 55, none, .move (.tmp 54), []⟩],
  .grp (some (some 55, true)) [⟨some 56, none, .move (.tmp 5), []⟩, ⟨some 57, none, .bin .eql 27 (.tmp 56) (.const (.int .i64 1)), []⟩],
  .grp none [⟨some 58, none, .pick (.tmp 55) (.tmp 57) (.const (.bool false)), []⟩, ⟨some 59, none, .move (.tmp 58), []⟩],
  .grp (some (some 59, true)) [⟨some 60, none, .move (.tmp 7), []⟩, ⟨some 61, none, .bin .eql 27 (.tmp 60) (.const (.int .i64 1)), []⟩],
  .grp none [⟨some 62, none, .pick (.tmp 59) (.tmp 61) (.const (.bool false)), []⟩, ⟨some 63, none, .move (.tmp 62), []⟩],
  .grp (some (some 63, true)) [⟨some 64, none, .move (.tmp 9), []⟩, ⟨some 65, none, .bin .eql 27 (.tmp 64) (.const (.int .i64 1)), []⟩],
  .grp none [⟨some 66, none, .pick (.tmp 63) (.tmp 65) (.const (.bool false)), []⟩, ⟨some 67, none, .move (.tmp 66), []⟩],
  .grp (some (some 67, true)) [⟨some 68, none, .move (.tmp 3), []⟩, ⟨some 69, none, .faddr 1 (.tmp 1), []⟩, ⟨some 70, none, .load none (.tmp 69), []⟩, ⟨some 71, none, .call 36 #[.tmp 68, .tmp 70], []⟩, ⟨some 72, none, .bin .eql 27 (.tmp 71) (.const (.int .i64 1)), []⟩],
  .grp none [⟨some 73, none, .pick (.tmp 67) (.tmp 72) (.const (.bool false)), []⟩, ⟨some 74, none, .move (.tmp 73), []⟩],
  .grp (some (some 74, true)) [⟨some 75, none, .move (.tmp 3), []⟩, ⟨some 76, none, .faddr 1 (.tmp 1), []⟩, ⟨some 77, none, .load none (.tmp 76), []⟩, ⟨some 78, none, .call 37 #[.tmp 75, .tmp 77], []⟩, ⟨some 79, none, .bin .eql 27 (.tmp 78) (.const (.int .i64 1)), []⟩],
  .grp none [⟨some 80, none, .pick (.tmp 74) (.tmp 79) (.const (.bool false)), []⟩, ⟨some 81, none, .move (.tmp 80), []⟩],
  .grp (some (some 81, true)) [⟨some 82, none, .move (.tmp 3), []⟩, ⟨some 83, none, .faddr 2 (.tmp 1), []⟩, ⟨some 84, none, .load none (.tmp 83), []⟩, ⟨some 85, none, .call 46 #[.tmp 82, .tmp 84], []⟩, ⟨some 86, none, .bin .eql 27 (.tmp 85) (.const (.int .i64 1)), []⟩],
  .grp none [⟨some 87, none, .pick (.tmp 81) (.tmp 86) (.const (.bool false)), []⟩, ⟨some 88, none, .move (.tmp 87), []⟩],
  .grp (some (some 88, true)) [⟨some 89, none, .move (.tmp 3), []⟩, ⟨some 90, none, .faddr 2 (.tmp 1), []⟩, ⟨some 91, none, .load none (.tmp 90), []⟩, ⟨some 92, none, .call 47 #[.tmp 89, .tmp 91], []⟩, ⟨some 93, none, .bin .eql 27 (.tmp 92) (.const (.int .i64 1)), []⟩],
  .grp none [⟨some 94, none, .pick (.tmp 88) (.tmp 93) (.const (.bool false)), []⟩, ⟨some 2, none, .move (.tmp 94), []⟩]]) .ret)))))⟩
theorem low13 : lowG Try.prog 13 = some g13 := by kernel_rfl

def g28 : GFn :=
 ⟨26, [⟨4, none⟩], .seq (.ops [.grp none [⟨some 4, none, .move (.const (.bool false)), []⟩]]) 
 (.seq 
 (.seq (.ops [.grp none [⟨some 6, none, .move (.tmp 0), []⟩, ⟨some 7, none, .len (.tmp 6), []⟩, ⟨some 8, none, .move (.tmp 1), []⟩, ⟨some 9, none, .len (.tmp 8), []⟩, ⟨some 10, none, .bin .neq 3 (.tmp 7) (.tmp 9), []⟩]]) 
 (.cond (.tmp 10) 
 (.seq (.ops [.grp none [⟨some 4, none, .move (.const (.bool false)), []⟩]]) .ret) .skip)) 
 (.seq 
 (.seq (.ops [.grp none [⟨some 5, none, .move (.const (.int .i64 0)), []⟩]]) 
 (.block 0 
 (.loop 
 (.seq 
 (.seq (.ops [.grp none [⟨some 11, none, .move (.tmp 5), []⟩, ⟨some 12, none, .move (.tmp 0), []⟩, ⟨some 13, none, .len (.tmp 12), []⟩, ⟨some 14, none, .bin .lss 3 (.tmp 11) (.tmp 13), []⟩]]) 
 (.cond (.tmp 14) .skip (.exit 0))) 
 (.seq 
 (.block 1 
 (.seq (.ops [.grp none [⟨some 17, none, .move (.tmp 0), []⟩, ⟨some 18, none, .move (.tmp 5), []⟩, ⟨some 19, none, .iaddr 1 (.tmp 17) (.tmp 18), []⟩, ⟨some 20, none, .load none (.tmp 19), []⟩, ⟨some 21, none, .move (.tmp 1), []⟩, ⟨some 22, none, .move (.tmp 5), []⟩, ⟨some 23, none, .iaddr 1 (.tmp 21) (.tmp 22), []⟩, ⟨some 24, none, .load none (.tmp 23), []⟩, ⟨some 25, none, .bin .neq 3 (.tmp 20) (.tmp 24), []⟩]]) 
 (.cond (.tmp 25) 
 (.seq (.ops [.grp none [⟨some 4, none, .move (.const (.bool false)), []⟩]]) .ret) .skip))) (.ops [.grp none [⟨some 15, none, .move (.tmp 5), []⟩, ⟨some 16, none, .bin .add 3 (.tmp 15) (.const (.int .i64 1)), []⟩, ⟨some 5, none, .move (.tmp 16), []⟩]])))))) 
 (.seq (.ops [.grp none [⟨some 4, none, .move (.const (.bool true)), []⟩]]) .ret)))⟩
theorem low28 : lowG Try.prog 28 = some g28 := by kernel_rfl

def g30 : GFn :=
 ⟨40, [⟨2, none⟩, ⟨3, none⟩], .seq (.ops [.grp none [⟨some 2, none, .move (.const (.pointer none)), []⟩, ⟨some 3, none, .move (.const (.pointer none)), []⟩]]) 
 (.seq (.ops [.grp none [⟨some 10, none, .call 41 #[.const (.int .i64 3), .const (.int .i64 2)], []⟩, ⟨some 9, none, .move (.tmp 10), []⟩, ⟨some 11, none, .extract (.tmp 9) 0, []⟩, ⟨some 12, none, .extract (.tmp 9) 1, []⟩, ⟨some 4, none, .move (.tmp 11), []⟩, ⟨some 5, none, .move (.tmp 12), []⟩]]) 
 (.seq (.ops [.grp none [⟨some 14, none, .call 42 #[.const (.int .i64 3), .const (.int .i64 2)], []⟩, ⟨some 13, none, .move (.tmp 14), []⟩, ⟨some 15, none, .extract (.tmp 13) 0, []⟩, ⟨some 16, none, .extract (.tmp 13) 1, []⟩, ⟨some 6, none, .move (.tmp 15), []⟩, ⟨some 7, none, .move (.tmp 16), []⟩]]) 
 (.seq 
 (.seq (.ops [.grp none [⟨some 8, none, .move (.const (.int .i64 0)), []⟩]]) 
 (.block 0 
 (.loop 
 (.seq 
 (.seq (.ops [.grp none [⟨some 17, none, .move (.tmp 4), []⟩, ⟨some 18, none, .bin .neq 54 (.tmp 17) (.const (.pointer none)), []⟩, ⟨some 19, none, .move (.tmp 18), []⟩],
  .grp (some (some 19, true)) [⟨some 20, none, .move (.tmp 8), []⟩, ⟨some 21, none, .move (.tmp 0), []⟩, ⟨some 22, none, .len (.tmp 21), []⟩, ⟨some 23, none, .bin .lss 3 (.tmp 20) (.tmp 22), []⟩],
  .grp none [⟨some 24, none, .pick (.tmp 19) (.tmp 23) (.const (.bool false)), []⟩, ⟨some 25, none, .move (.tmp 24), []⟩],
  .grp (some (some 25, true)) [⟨some 26, none, .move (.tmp 8), []⟩, ⟨some 27, none, .bin .lss 3 (.tmp 26) (.const (.int .i64 60)), []⟩],
  .grp none [⟨some 28, none, .pick (.tmp 25) (.tmp 27) (.const (.bool false)), []⟩]]) 
 (.cond (.tmp 28) .skip (.exit 0))) 
 (.seq 
 (.block 1 (.ops [.grp none [⟨some 31, none, .move (.tmp 4), []⟩, ⟨some 32, none, .move (.tmp 6), []⟩, ⟨some 33, none, .move (.tmp 0), []⟩, ⟨some 34, none, .move (.tmp 8), []⟩, ⟨some 35, none, .iaddr 4 (.tmp 33) (.tmp 34), []⟩, ⟨some 36, none, .load (some 4) (.tmp 35), []⟩, ⟨some 37, none, .call 38 #[.tmp 31, .tmp 32, .tmp 36], []⟩]])) (.ops [.grp none [⟨some 29, none, .move (.tmp 8), []⟩, ⟨some 30, none, .bin .add 3 (.tmp 29) (.const (.int .i64 1)), []⟩, ⟨some 8, none, .move (.tmp 30), []⟩]])))))) 
 (.seq (.ops [.grp none [⟨some 38, none, .move (.tmp 4), []⟩, ⟨some 39, none, .move (.tmp 6), []⟩, ⟨some 2, none, .move (.tmp 38), []⟩, ⟨some 3, none, .move (.tmp 39), []⟩]]) .ret))))⟩
theorem low30 : lowG Try.prog 30 = some g30 := by kernel_rfl

def g31 : GFn :=
 ⟨83, [⟨0, none⟩], .seq (.ops [.grp none [⟨some 0, none, .move (.const (.bool false)), []⟩]]) 
 (.seq (.ops [.grp none [⟨some 12, none, .call 41 #[.const (.int .i64 3), .const (.int .i64 0)], []⟩, ⟨some 11, none, .move (.tmp 12), []⟩, ⟨some 13, none, .extract (.tmp 11) 0, []⟩, ⟨some 14, none, .extract (.tmp 11) 1, []⟩, ⟨some 1, none, .move (.tmp 13), []⟩, ⟨some 2, none, .move (.tmp 14), []⟩]]) 
 (.seq 
 (.seq (.ops [.grp none [⟨some 15, none, .move (.tmp 2), []⟩, ⟨some 16, none, .bin .neq 27 (.tmp 15) (.const (.int .i64 0)), []⟩, ⟨some 17, none, .move (.tmp 16), []⟩],
  .grp (some (some 17, false)) [⟨some 18, none, .move (.tmp 1), []⟩, ⟨some 19, none, .bin .eql 54 (.tmp 18) (.const (.pointer none)), []⟩],
  .grp none [⟨some 20, none, .pick (.tmp 17) (.const (.bool true)) (.tmp 19), []⟩, ⟨some 21, none, .move (.tmp 20), []⟩],
  .grp (some (some 21, false)) [⟨some 22, none, .move (.tmp 1), []⟩, ⟨some 23, none, .call 36 #[.tmp 22, .const (.int .i64 8)], []⟩, ⟨some 24, none, .bin .neq 27 (.tmp 23) (.const (.int .i64 0)), []⟩],
  .grp none [⟨some 25, none, .pick (.tmp 21) (.const (.bool true)) (.tmp 24), []⟩, ⟨some 26, none, .move (.tmp 25), []⟩],
  .grp (some (some 26, false)) [⟨some 27, none, .move (.tmp 1), []⟩, ⟨some 28, none, .call 36 #[.tmp 27, .const (.int .i64 16)], []⟩, ⟨some 29, none, .bin .neq 27 (.tmp 28) (.const (.int .i64 0)), []⟩],
  .grp none [⟨some 30, none, .pick (.tmp 26) (.const (.bool true)) (.tmp 29), []⟩, ⟨some 31, none, .move (.tmp 30), []⟩],
  .grp (some (some 31, false)) [⟨some 32, none, .move (.tmp 1), []⟩, ⟨some 33, none, .call 46 #[.tmp 32, .const (.int .i64 1)], []⟩, ⟨some 34, none, .bin .neq 27 (.tmp 33) (.const (.int .i64 0)), []⟩],
  .grp none [⟨some 35, none, .pick (.tmp 31) (.const (.bool true)) (.tmp 34), []⟩]]) 
 (.cond (.tmp 35) 
 (.seq (.ops [.grp none [⟨some 0, none, .move (.const (.bool false)), []⟩]]) .ret) .skip)) 
 (.seq (.ops [.grp none [⟨some 37, none, .move (.tmp 1), []⟩, ⟨some 38, none, .call 34 #[.tmp 37, .const (.bool false)], []⟩, ⟨some 36, none, .move (.tmp 38), []⟩, ⟨some 39, none, .extract (.tmp 36) 0, []⟩, ⟨some 40, none, .extract (.tmp 36) 1, []⟩, ⟨some 3, none, .move (.tmp 39), []⟩, ⟨some 4, none, .move (.tmp 40), []⟩]]) 
 (.seq (.ops [.grp none [⟨some 42, none, .move (.tmp 1), []⟩, ⟨some 43, none, .call 34 #[.tmp 42, .const (.bool false)], []⟩, ⟨some 41, none, .move (.tmp 43), []⟩, ⟨some 44, none, .extract (.tmp 41) 0, []⟩, ⟨some 45, none, .extract (.tmp 41) 1, []⟩, ⟨some 5, none, .move (.tmp 44), []⟩, ⟨some 6, none, .move (.tmp 45), []⟩]]) 
 (.seq (.ops [.grp none [⟨some 47, none, .move (.tmp 1), []⟩, ⟨some 48, none, .call 33 #[.tmp 47], []⟩, ⟨some 46, none, .move (.tmp 48), []⟩, ⟨some 49, none, .extract (.tmp 46) 0, []⟩, ⟨some 50, none, .extract (.tmp 46) 1, []⟩, ⟨some 7, none, .move (.tmp 49), []⟩, ⟨some 8, none, .move (.tmp 50), []⟩]]) 
 (.seq (.ops [.grp none [⟨some 52, none, .move (.tmp 1), []⟩, ⟨some 53, none, .call 34 #[.tmp 52, .const (.bool true)], []⟩, ⟨some 51, none, .move (.tmp 53), []⟩, ⟨some 54, none, .extract (.tmp 51) 0, []⟩, ⟨some 55, none, .extract (.tmp 51) 1, []⟩, ⟨some 9, none, .move (.tmp 54), []⟩, ⟨some 10, none, .move (.tmp 55), []⟩]]) 
 (.seq (.ops [.grp none [⟨some 56, none, .move (.tmp 3), []⟩, ⟨some 57, none, .bin .eql 3 (.tmp 56) (.const (.int .i64 8)), []⟩, ⟨some 58, none, .move (.tmp 57), []⟩],
  .grp (some (some 58, true)) [⟨some 59, none, .move (.tmp 4), []⟩, ⟨some 60, none, .bin .eql 27 (.tmp 59) (.const (.int .i64 0)), []⟩],
  .grp none [⟨some 61, none, .pick (.tmp 58) (.tmp 60) (.const (.bool false)), []⟩, ⟨some 62, none, .move (.tmp 61), []⟩],
  .grp (some (some 62, true)) [⟨some 63, none, .move (.tmp 6), []⟩, ⟨some 64, none, .bin .eql 27 (.tmp 63) (.const (.int .i64 9)), []⟩],
  .grp none [⟨some 65, none, .pick (.tmp 62) (.tmp 64) (.const (.bool false)), []⟩, ⟨some 66, none, .move (.tmp 65), []⟩],
  .grp (some (some 66, true)) [⟨some 67, none, .move (.tmp 8), []⟩, ⟨some 68, none, .bin .eql 27 (.tmp 67) (.const (.int .i64 12)), []⟩],
  .grp none [⟨some 69, none, .pick (.tmp 66) (.tmp 68) (.const (.bool false)), []⟩, ⟨some 70, none, .move (.tmp 69), []⟩],
  .grp (some (some 70, true)) [⟨some 71, none, .move (.tmp 9), []⟩, ⟨some 72, none, .bin .eql 3 (.tmp 71) (.const (.int .i64 16)), []⟩],
  .grp none [⟨some 73, none, .pick (.tmp 70) (.tmp 72) (.const (.bool false)), []⟩, ⟨some 74, none, .move (.tmp 73), []⟩],
  .grp (some (some 74, true)) [⟨some 75, none, .move (.tmp 10), []⟩, ⟨some 76, none, .bin .eql 27 (.tmp 75) (.const (.int .i64 0)), []⟩],
  .grp none [⟨some 77, none, .pick (.tmp 74) (.tmp 76) (.const (.bool false)), []⟩, ⟨some 78, none, .move (.tmp 77), []⟩],
  .grp (some (some 78, true)) [⟨some 79, none, .move (.tmp 1), []⟩, ⟨some 80, none, .call 40 #[.tmp 79], []⟩, ⟨some 81, none, .bin .eql 3 (.tmp 80) (.const (.int .i64 2)), []⟩],
  .grp none [⟨some 82, none, .pick (.tmp 78) (.tmp 81) (.const (.bool false)), []⟩, ⟨some 0, none, .move (.tmp 82), []⟩]]) .ret)))))))⟩
theorem low31 : lowG Try.prog 31 = some g31 := by kernel_rfl

def g32 : GFn :=
 ⟨6, [⟨2, none⟩], .seq (.ops [.grp none [⟨some 1, none, .box 54 (.tmp 0), []⟩, ⟨some 2, none, .move (.const (.slice none 0 0)), []⟩]]) 
 (.seq (.ops [.grp none [⟨some 3, none, .load none (.tmp 1), []⟩, ⟨some 4, none, .fn 54 #[.tmp 1], []⟩, ⟨some 5, none, .call 53 #[.tmp 3, .tmp 4], []⟩, ⟨some 2, none, .move (.tmp 5), []⟩]]) .ret)⟩
theorem low32 : lowG Try.prog 32 = some g32 := by kernel_rfl

def g33 : GFn :=
 ⟨27, [⟨2, none⟩, ⟨3, none⟩], .seq (.ops [.grp none [⟨some 2, none, .move (.const (.int .i64 0)), []⟩, ⟨some 3, none, .move (.const (.int .i64 0)), []⟩]]) 
 (.seq 
 (.block 0 
 (.seq (.ops [.grp none [⟨some 7, none, .move (.tmp 0), []⟩, ⟨some 8, none, .bin .eql 54 (.tmp 7) (.const (.pointer none)), []⟩, ⟨some 6, none, .move (.tmp 8), []⟩]]) 
 (.cond (.tmp 6) 
 (.seq (.ops [.grp none [⟨some 2, none, .move (.const (.int .i64 0)), []⟩, ⟨some 3, none, .move (.const (.int .i64 1)), []⟩]]) .ret) 
 (.seq (.ops [.grp none [⟨some 10, none, .move (.tmp 0), []⟩, ⟨some 11, none, .call 55 #[.tmp 10], []⟩, ⟨some 12, none, .bin .lss 3 (.tmp 11) (.const (.int .i64 1)), []⟩, ⟨some 9, none, .move (.tmp 12), []⟩]]) 
 (.cond (.tmp 9) 
 (.seq (.ops [.grp none [⟨some 2, none, .move (.const (.int .i64 0)), []⟩, ⟨some 3, none, .move (.const (.int .i64 12)), []⟩]]) .ret) .skip))))) 
 (.seq (.ops [.grp none [⟨some 13, none, .move (.tmp 0), []⟩, ⟨some 14, none, .call 32 #[.tmp 13], []⟩, ⟨some 4, none, .move (.tmp 14), []⟩]]) 
 (.seq (.ops [.grp none [⟨some 15, none, .move (.tmp 4), []⟩, ⟨some 16, none, .move (.tmp 4), []⟩, ⟨some 17, none, .len (.tmp 16), []⟩, ⟨some 18, none, .bin .sub 3 (.tmp 17) (.const (.int .i64 1)), []⟩, ⟨some 19, none, .iaddr 1 (.tmp 15) (.tmp 18), []⟩, ⟨some 20, none, .load none (.tmp 19), []⟩, ⟨some 5, none, .move (.tmp 20), []⟩]]) 
 (.seq (.ops [.grp none [⟨some 21, none, .move (.tmp 0), []⟩, ⟨some 22, none, .nonnil (.tmp 21), []⟩, ⟨some 23, none, .faddr 2 (.tmp 22), []⟩, ⟨some 24, none, .load none (.tmp 23), []⟩, ⟨some 25, none, .move (.tmp 5), []⟩, ⟨none, none, .delete .i64 (.tmp 24) (.tmp 25), []⟩]]) 
 (.seq (.ops [.grp none [⟨some 26, none, .move (.tmp 5), []⟩, ⟨some 2, none, .move (.tmp 26), []⟩, ⟨some 3, none, .move (.const (.int .i64 0)), []⟩]]) .ret)))))⟩
theorem low33 : lowG Try.prog 33 = some g33 := by kernel_rfl

def t34 : GC :=
 (.seq (.ops [.grp none [⟨some 27, none, .move (.tmp 0), []⟩, ⟨some 28, none, .call 32 #[.tmp 27], []⟩, ⟨some 29, none, .iaddr 1 (.tmp 28) (.const (.int .i64 0)), []⟩, ⟨some 30, none, .load none (.tmp 29), []⟩, ⟨some 6, none, .move (.tmp 30), []⟩]]) 
 (.seq (.ops [.grp none [⟨some 31, none, .move (.tmp 0), []⟩, ⟨some 32, none, .nonnil (.tmp 31), []⟩, ⟨some 33, none, .faddr 2 (.tmp 32), []⟩, ⟨some 34, none, .load none (.tmp 33), []⟩, ⟨some 35, none, .move (.tmp 6), []⟩, ⟨none, none, .update .i64 (.tmp 34) (.tmp 35) (.const (.int .i64 0)), []⟩]]) 
 (.seq 
 (.seq (.ops [.grp none [⟨some 36, none, .move (.tmp 1), []⟩]]) 
 (.cond (.tmp 36) (.ops [.grp none [⟨some 37, none, .move (.tmp 0), []⟩, ⟨some 38, none, .nonnil (.tmp 37), []⟩, ⟨some 39, none, .faddr 3 (.tmp 38), []⟩, ⟨some 40, none, .load none (.tmp 39), []⟩, ⟨some 41, none, .bin .sub 3 (.tmp 40) (.const (.int .i64 1)), []⟩, ⟨some 42, none, .nonnil (.tmp 37), []⟩, ⟨some 43, none, .faddr 3 (.tmp 42), []⟩, ⟨none, none, .store 1 (.tmp 43) (.tmp 41), []⟩]]) .skip)) 
 (.seq (.ops [.grp none [⟨some 44, none, .move (.tmp 6), []⟩, ⟨some 4, none, .move (.tmp 44), []⟩, ⟨some 5, none, .move (.const (.int .i64 0)), []⟩]]) .ret))))
def g34 : GFn :=
 ⟨45, [⟨4, none⟩, ⟨5, none⟩], .seq (.ops [.grp none [⟨some 4, none, .move (.const (.int .i64 0)), []⟩, ⟨some 5, none, .move (.const (.int .i64 0)), []⟩]]) 
 (.seq 
 (.block 0 
 (.seq (.ops [.grp none [⟨some 8, none, .move (.tmp 0), []⟩, ⟨some 9, none, .bin .eql 54 (.tmp 8) (.const (.pointer none)), []⟩, ⟨some 7, none, .move (.tmp 9), []⟩]]) 
 (.cond (.tmp 7) 
 (.seq (.ops [.grp none [⟨some 4, none, .move (.const (.int .i64 0)), []⟩, ⟨some 5, none, .move (.const (.int .i64 1)), []⟩]]) .ret) 
 (.seq (.ops [.grp none [⟨some 11, none, .move (.tmp 1), []⟩, ⟨some 12, none, .move (.tmp 11), []⟩],
  .grp (some (some 12, true)) [⟨some 13, none, .move (.tmp 0), []⟩, ⟨some 14, none, .nonnil (.tmp 13), []⟩, ⟨some 15, none, .faddr 3 (.tmp 14), []⟩, ⟨some 16, none, .load none (.tmp 15), []⟩, ⟨some 17, none, .bin .lss 3 (.tmp 16) (.const (.int .i64 1)), []⟩],
  .grp none [⟨some 18, none, .pick (.tmp 12) (.tmp 17) (.const (.bool false)), []⟩, ⟨some 10, none, .move (.tmp 18), []⟩]]) 
 (.cond (.tmp 10) 
 (.seq (.ops [.grp none [⟨some 4, none, .move (.const (.int .i64 0)), []⟩, ⟨some 5, none, .move (.const (.int .i64 3)), []⟩]]) .ret) 
 (.seq (.ops [.grp none [⟨some 20, none, .move (.tmp 1), []⟩, ⟨some 21, none, .un .not (.tmp 20), []⟩, ⟨some 22, none, .move (.tmp 21), []⟩],
  .grp (some (some 22, true)) [⟨some 23, none, .move (.tmp 0), []⟩, ⟨some 24, none, .call 55 #[.tmp 23], []⟩, ⟨some 25, none, .bin .lss 3 (.tmp 24) (.const (.int .i64 1)), []⟩],
  .grp none [⟨some 26, none, .pick (.tmp 22) (.tmp 25) (.const (.bool false)), []⟩, ⟨some 19, none, .move (.tmp 26), []⟩]]) 
 (.cond (.tmp 19) 
 (.seq (.ops [.grp none [⟨some 4, none, .move (.const (.int .i64 0)), []⟩, ⟨some 5, none, .move (.const (.int .i64 9)), []⟩]]) .ret) .skip))))))) 
 t34)⟩
theorem low34 : lowG Try.prog 34 = some g34 := by kernel_rfl

def g35 : GFn :=
 ⟨6, [⟨2, none⟩], .seq (.ops [.grp none [⟨some 1, none, .box 54 (.tmp 0), []⟩, ⟨some 2, none, .move (.const (.int .i64 0)), []⟩]]) 
 (.seq (.ops [.grp none [⟨some 3, none, .load none (.tmp 1), []⟩, ⟨some 4, none, .fn 57 #[.tmp 1], []⟩, ⟨some 5, none, .call 56 #[.tmp 3, .tmp 4], []⟩, ⟨some 2, none, .move (.tmp 5), []⟩]]) .ret)⟩
theorem low35 : lowG Try.prog 35 = some g35 := by kernel_rfl

def g36 : GFn :=
 ⟨17, [⟨4, none⟩], .seq (.ops [.grp none [⟨some 4, none, .move (.const (.int .i64 0)), []⟩]]) 
 (.seq (.ops [.grp none [⟨some 6, none, .move (.tmp 0), []⟩, ⟨some 7, none, .move (.tmp 1), []⟩, ⟨some 8, none, .call 58 #[.tmp 6, .tmp 7], []⟩, ⟨some 5, none, .move (.tmp 8), []⟩]]) 
 (.seq 
 (.seq (.ops [.grp none [⟨some 9, none, .move (.tmp 5), []⟩, ⟨some 10, none, .bin .eql 27 (.tmp 9) (.const (.int .i64 0)), []⟩]]) 
 (.cond (.tmp 10) (.ops [.grp none [⟨some 11, none, .move (.tmp 0), []⟩, ⟨some 12, none, .nonnil (.tmp 11), []⟩, ⟨some 13, none, .faddr 2 (.tmp 12), []⟩, ⟨some 14, none, .load none (.tmp 13), []⟩, ⟨some 15, none, .move (.tmp 1), []⟩, ⟨none, none, .update .i64 (.tmp 14) (.tmp 15) (.const (.int .i64 1)), []⟩]]) .skip)) 
 (.seq (.ops [.grp none [⟨some 16, none, .move (.tmp 5), []⟩, ⟨some 4, none, .move (.tmp 16), []⟩]]) .ret)))⟩
theorem low36 : lowG Try.prog 36 = some g36 := by kernel_rfl

def g37 : GFn :=
 ⟨33, [⟨4, none⟩], .seq (.ops [.grp none [⟨some 4, none, .move (.const (.int .i64 0)), []⟩]]) 
 (.seq (.ops [.grp none [⟨some 6, none, .move (.tmp 0), []⟩, ⟨some 7, none, .move (.tmp 1), []⟩, ⟨some 8, none, .call 58 #[.tmp 6, .tmp 7], []⟩, ⟨some 5, none, .move (.tmp 8), []⟩]]) 
 (.seq 
 (.seq (.ops [.grp none [⟨some 9, none, .move (.tmp 5), []⟩, ⟨some 10, none, .bin .neq 27 (.tmp 9) (.const (.int .i64 0)), []⟩]]) 
 (.cond (.tmp 10) 
 (.seq (.ops [.grp none [⟨some 11, none, .move (.tmp 5), []⟩, ⟨some 4, none, .move (.tmp 11), []⟩]]) .ret) .skip)) 
 (.seq 
 (.seq (.ops [.grp none [⟨some 12, none, .move (.tmp 0), []⟩, ⟨some 13, none, .nonnil (.tmp 12), []⟩, ⟨some 14, none, .faddr 4 (.tmp 13), []⟩, ⟨some 15, none, .load none (.tmp 14), []⟩, ⟨some 16, none, .move (.tmp 0), []⟩, ⟨some 17, none, .nonnil (.tmp 16), []⟩, ⟨some 18, none, .faddr 1 (.tmp 17), []⟩, ⟨some 19, none, .load none (.tmp 18), []⟩, ⟨some 20, none, .bin .geq 3 (.tmp 15) (.tmp 19), []⟩]]) 
 (.cond (.tmp 20) 
 (.seq (.ops [.grp none [⟨some 4, none, .move (.const (.int .i64 13)), []⟩]]) .ret) .skip)) 
 (.seq (.ops [.grp none [⟨some 21, none, .move (.tmp 0), []⟩, ⟨some 22, none, .nonnil (.tmp 21), []⟩, ⟨some 23, none, .faddr 2 (.tmp 22), []⟩, ⟨some 24, none, .load none (.tmp 23), []⟩, ⟨some 25, none, .move (.tmp 1), []⟩, ⟨none, none, .update .i64 (.tmp 24) (.tmp 25) (.const (.int .i64 0)), []⟩]]) 
 (.seq (.ops [.grp none [⟨some 26, none, .move (.tmp 0), []⟩, ⟨some 27, none, .nonnil (.tmp 26), []⟩, ⟨some 28, none, .faddr 4 (.tmp 27), []⟩, ⟨some 29, none, .load none (.tmp 28), []⟩, ⟨some 30, none, .bin .add 3 (.tmp 29) (.const (.int .i64 1)), []⟩, ⟨some 31, none, .nonnil (.tmp 26), []⟩, ⟨some 32, none, .faddr 4 (.tmp 31), []⟩, ⟨none, none, .store 1 (.tmp 32) (.tmp 30), []⟩]]) 
 (.seq (.ops [.grp none [⟨some 4, none, .move (.const (.int .i64 0)), []⟩]]) .ret))))))⟩
theorem low37 : lowG Try.prog 37 = some g37 := by kernel_rfl

def g38 : GFn :=
 ⟨137, [⟨6, none⟩], .seq (.ops [.grp none [⟨some 5, none, .box 63 (.tmp 2), []⟩, ⟨some 6, none, .move (.const (.bool false)), []⟩]]) 
 (.seq 
 (.seq (.ops [.grp none [⟨some 19, none, .faddr 0 (.tmp 5), []⟩, ⟨some 20, none, .load none (.tmp 19), []⟩]]) 
 (.block 0 
 (.seq 
 (.seq (.ops [.grp none [⟨some 22, none, .bin .eql 3 (.tmp 20) (.const (.int .i64 0)), []⟩, ⟨some 21, none, .move (.tmp 22), []⟩]]) 
 (.cond (.tmp 21) .skip (.ops [.grp none [⟨some 23, none, .bin .eql 3 (.tmp 20) (.const (.int .i64 1)), []⟩, ⟨some 21, none, .move (.tmp 23), []⟩]]))) 
 (.cond (.tmp 21) 
 (.seq (.ops [.grp none [⟨some 24, none, .move (.tmp 0), []⟩, ⟨some 25, none, .faddr 1 (.tmp 5), []⟩, ⟨some 26, none, .load none (.tmp 25), []⟩, ⟨some 28, none, .move (.tmp 1), []⟩, ⟨some 29, none, .faddr 1 (.tmp 5), []⟩, ⟨some 30, none, .load none (.tmp 29), []⟩, ⟨some 27, none, .call 36 #[.tmp 24, .tmp 26], [⟨some 30, none, .load none (.tmp 29)⟩]⟩, ⟨some 31, none, .call 59 #[.tmp 28, .tmp 30], []⟩, ⟨some 32, none, .bin .eql 27 (.tmp 27) (.tmp 31), []⟩, ⟨some 6, none, .move (.tmp 32), []⟩]]) .ret) 
 (.seq (.ops [.grp none [⟨some 34, none, .bin .eql 3 (.tmp 20) (.const (.int .i64 2)), []⟩, ⟨some 33, none, .move (.tmp 34), []⟩]]) 
 (.cond (.tmp 33) 
 (.seq (.ops [.grp none [⟨some 36, none, .move (.tmp 0), []⟩, ⟨some 37, none, .call 33 #[.tmp 36], []⟩, ⟨some 35, none, .move (.tmp 37), []⟩, ⟨some 38, none, .extract (.tmp 35) 0, []⟩, ⟨some 39, none, .extract (.tmp 35) 1, []⟩, ⟨some 7, none, .move (.tmp 38), []⟩, ⟨some 8, none, .move (.tmp 39), []⟩]]) 
 (.seq (.ops [.grp none [⟨some 41, none, .move (.tmp 1), []⟩, ⟨some 42, none, .call 60 #[.tmp 41], []⟩, ⟨some 40, none, .move (.tmp 42), []⟩, ⟨some 43, none, .extract (.tmp 40) 0, []⟩, ⟨some 44, none, .extract (.tmp 40) 1, []⟩, ⟨some 9, none, .move (.tmp 43), []⟩, ⟨some 10, none, .move (.tmp 44), []⟩]]) 
 (.seq (.ops [.grp none [⟨some 45, none, .move (.tmp 7), []⟩, ⟨some 46, none, .move (.tmp 9), []⟩, ⟨some 47, none, .bin .eql 3 (.tmp 45) (.tmp 46), []⟩, ⟨some 48, none, .move (.tmp 47), []⟩],
  .grp (some (some 48, true)) [⟨some 49, none, .move (.tmp 8), []⟩, ⟨some 50, none, .move (.tmp 10), []⟩, ⟨some 51, none, .bin .eql 27 (.tmp 49) (.tmp 50), []⟩],
  .grp none [⟨some 52, none, .pick (.tmp 48) (.tmp 51) (.const (.bool false)), []⟩, ⟨some 6, none, .move (.tmp 52), []⟩]]) .ret))) 
 (.seq (.ops [.grp none [⟨some 54, none, .bin .eql 3 (.tmp 20) (.const (.int .i64 3)), []⟩, ⟨some 53, none, .move (.tmp 54), []⟩]]) 
 (.cond (.tmp 53) 
 (.seq (.ops [.grp none [⟨some 55, none, .move (.tmp 0), []⟩, ⟨some 56, none, .faddr 2 (.tmp 5), []⟩, ⟨some 57, none, .load none (.tmp 56), []⟩, ⟨some 59, none, .move (.tmp 1), []⟩, ⟨some 60, none, .faddr 2 (.tmp 5), []⟩, ⟨some 61, none, .load none (.tmp 60), []⟩, ⟨some 58, none, .call 46 #[.tmp 55, .tmp 57], [⟨some 61, none, .load none (.tmp 60)⟩]⟩, ⟨some 62, none, .call 61 #[.tmp 59, .tmp 61], []⟩, ⟨some 63, none, .bin .eql 27 (.tmp 58) (.tmp 62), []⟩, ⟨some 6, none, .move (.tmp 63), []⟩]]) .ret) 
 (.seq (.ops [.grp none [⟨some 65, none, .bin .eql 3 (.tmp 20) (.const (.int .i64 4)), []⟩, ⟨some 64, none, .move (.tmp 65), []⟩]]) 
 (.cond (.tmp 64) 
 (.seq (.ops [.grp none [⟨some 66, none, .move (.tmp 0), []⟩, ⟨some 67, none, .faddr 2 (.tmp 5), []⟩, ⟨some 68, none, .load none (.tmp 67), []⟩, ⟨some 70, none, .move (.tmp 1), []⟩, ⟨some 71, none, .faddr 2 (.tmp 5), []⟩, ⟨some 72, none, .load none (.tmp 71), []⟩, ⟨some 69, none, .call 47 #[.tmp 66, .tmp 68], [⟨some 72, none, .load none (.tmp 71)⟩]⟩, ⟨some 73, none, .call 62 #[.tmp 70, .tmp 72], []⟩, ⟨some 74, none, .bin .eql 27 (.tmp 69) (.tmp 73), []⟩, ⟨some 6, none, .move (.tmp 74), []⟩]]) .ret) 
 (.seq 
 (.seq (.ops [.grp none [⟨some 76, none, .bin .eql 3 (.tmp 20) (.const (.int .i64 5)), []⟩, ⟨some 75, none, .move (.tmp 76), []⟩]]) 
 (.cond (.tmp 75) .skip (.ops [.grp none [⟨some 77, none, .bin .eql 3 (.tmp 20) (.const (.int .i64 6)), []⟩, ⟨some 75, none, .move (.tmp 77), []⟩]]))) 
 (.cond (.tmp 75) 
 (.seq (.ops [.grp none [⟨some 79, none, .move (.tmp 0), []⟩, ⟨some 80, none, .faddr 3 (.tmp 5), []⟩, ⟨some 81, none, .load none (.tmp 80), []⟩, ⟨some 82, none, .call 34 #[.tmp 79, .tmp 81], []⟩, ⟨some 78, none, .move (.tmp 82), []⟩, ⟨some 83, none, .extract (.tmp 78) 0, []⟩, ⟨some 84, none, .extract (.tmp 78) 1, []⟩, ⟨some 11, none, .move (.tmp 83), []⟩, ⟨some 12, none, .move (.tmp 84), []⟩]]) 
 (.seq (.ops [.grp none [⟨some 86, none, .move (.tmp 1), []⟩, ⟨some 87, none, .faddr 3 (.tmp 5), []⟩, ⟨some 88, none, .load none (.tmp 87), []⟩, ⟨some 89, none, .call 63 #[.tmp 86, .tmp 88], []⟩, ⟨some 85, none, .move (.tmp 89), []⟩, ⟨some 90, none, .extract (.tmp 85) 0, []⟩, ⟨some 91, none, .extract (.tmp 85) 1, []⟩, ⟨some 13, none, .move (.tmp 90), []⟩, ⟨some 14, none, .move (.tmp 91), []⟩]]) 
 (.seq (.ops [.grp none [⟨some 92, none, .move (.tmp 11), []⟩, ⟨some 93, none, .move (.tmp 13), []⟩, ⟨some 94, none, .bin .eql 3 (.tmp 92) (.tmp 93), []⟩, ⟨some 95, none, .move (.tmp 94), []⟩],
  .grp (some (some 95, true)) [⟨some 96, none, .move (.tmp 12), []⟩, ⟨some 97, none, .move (.tmp 14), []⟩, ⟨some 98, none, .bin .eql 27 (.tmp 96) (.tmp 97), []⟩],
  .grp none [⟨some 99, none, .pick (.tmp 95) (.tmp 98) (.const (.bool false)), []⟩, ⟨some 6, none, .move (.tmp 99), []⟩]]) .ret))) 
 (.seq (.ops [.grp none [⟨some 101, none, .bin .eql 3 (.tmp 20) (.const (.int .i64 7)), []⟩, ⟨some 100, none, .move (.tmp 101), []⟩]]) 
 (.cond (.tmp 100) 
 (.seq (.ops [.grp none [⟨some 102, none, .move (.tmp 0), []⟩, ⟨some 103, none, .faddr 1 (.tmp 5), []⟩, ⟨some 104, none, .load none (.tmp 103), []⟩, ⟨some 106, none, .move (.tmp 1), []⟩, ⟨some 107, none, .faddr 1 (.tmp 5), []⟩, ⟨some 108, none, .load none (.tmp 107), []⟩, ⟨some 105, none, .call 37 #[.tmp 102, .tmp 104], [⟨some 108, none, .load none (.tmp 107)⟩]⟩, ⟨some 109, none, .call 64 #[.tmp 106, .tmp 108], []⟩, ⟨some 110, none, .bin .eql 27 (.tmp 105) (.tmp 109), []⟩, ⟨some 6, none, .move (.tmp 110), []⟩]]) .ret) .skip)))))))))))))) 
 (.seq (.ops [.grp none [⟨some 112, none, .move (.tmp 0), []⟩, ⟨some 113, none, .faddr 1 (.tmp 5), []⟩, ⟨some 114, none, .load none (.tmp 113), []⟩, ⟨some 115, none, .faddr 3 (.tmp 5), []⟩, ⟨some 116, none, .load none (.tmp 115), []⟩, ⟨some 117, none, .call 39 #[.tmp 112, .tmp 114, .tmp 116], []⟩, ⟨some 111, none, .move (.tmp 117), []⟩, ⟨some 118, none, .extract (.tmp 111) 0, []⟩, ⟨some 119, none, .extract (.tmp 111) 1, []⟩, ⟨some 15, none, .move (.tmp 118), []⟩, ⟨some 16, none, .move (.tmp 119), []⟩]]) 
 (.seq (.ops [.grp none [⟨some 121, none, .move (.tmp 1), []⟩, ⟨some 122, none, .faddr 1 (.tmp 5), []⟩, ⟨some 123, none, .load none (.tmp 122), []⟩, ⟨some 124, none, .faddr 3 (.tmp 5), []⟩, ⟨some 125, none, .load none (.tmp 124), []⟩, ⟨some 126, none, .call 65 #[.tmp 121, .tmp 123, .tmp 125], []⟩, ⟨some 120, none, .move (.tmp 126), []⟩, ⟨some 127, none, .extract (.tmp 120) 0, []⟩, ⟨some 128, none, .extract (.tmp 120) 1, []⟩, ⟨some 17, none, .move (.tmp 127), []⟩, ⟨some 18, none, .move (.tmp 128), []⟩]]) 
 (.seq (.ops [.grp none [⟨some 129, none, .move (.tmp 15), []⟩, ⟨some 130, none, .move (.tmp 17), []⟩, ⟨some 131, none, .bin .eql 4 (.tmp 129) (.tmp 130), []⟩, ⟨some 132, none, .move (.tmp 131), []⟩],
  .grp (some (some 132, true)) [⟨some 133, none, .move (.tmp 16), []⟩, ⟨some 134, none, .move (.tmp 18), []⟩, ⟨some 135, none, .bin .eql 27 (.tmp 133) (.tmp 134), []⟩],
  .grp none [⟨some 136, none, .pick (.tmp 132) (.tmp 135) (.const (.bool false)), []⟩, ⟨some 6, none, .move (.tmp 136), []⟩]]) .ret))))⟩
theorem low38 : lowG Try.prog 38 = some g38 := by kernel_rfl

def g39 : GFn :=
 ⟨61, [⟨6, none⟩, ⟨7, none⟩], .seq (.ops [.grp none [⟨some 6, none, .move (.const (.bool false)), []⟩, ⟨some 7, none, .move (.const (.int .i64 0)), []⟩]]) 
 (.seq 
 (.seq (.ops [.grp none [⟨some 10, none, .move (.tmp 0), []⟩, ⟨some 11, none, .bin .eql 54 (.tmp 10) (.const (.pointer none)), []⟩]]) 
 (.cond (.tmp 11) 
 (.seq (.ops [.grp none [⟨some 6, none, .move (.const (.bool false)), []⟩, ⟨some 7, none, .move (.const (.int .i64 1)), []⟩]]) .ret) .skip)) 
 (.seq 
 (.seq (.ops [.grp none [⟨some 13, none, .move (.tmp 0), []⟩, ⟨some 14, none, .nonnil (.tmp 13), []⟩, ⟨some 15, none, .faddr 2 (.tmp 14), []⟩, ⟨some 16, none, .load none (.tmp 15), []⟩, ⟨some 17, none, .move (.tmp 1), []⟩, ⟨some 18, none, .lookup .i64 (.int .i64 0) (.tmp 16) (.tmp 17) true, []⟩, ⟨some 12, none, .move (.tmp 18), []⟩, ⟨some 19, none, .extract (.tmp 12) 0, []⟩, ⟨some 20, none, .extract (.tmp 12) 1, []⟩, ⟨some 8, none, .move (.tmp 19), []⟩, ⟨some 9, none, .move (.tmp 20), []⟩]]) 
 (.seq (.ops [.grp none [⟨some 21, none, .move (.tmp 9), []⟩, ⟨some 22, none, .un .not (.tmp 21), []⟩, ⟨some 23, none, .move (.tmp 22), []⟩],
  .grp (some (some 23, false)) [⟨some 24, none, .move (.tmp 8), []⟩, ⟨some 25, none, .bin .eql 3 (.tmp 24) (.const (.int .i64 1)), []⟩],
  .grp none [⟨some 26, none, .pick (.tmp 23) (.const (.bool true)) (.tmp 25), []⟩]]) 
 (.cond (.tmp 26) 
 (.seq (.ops [.grp none [⟨some 6, none, .move (.const (.bool false)), []⟩, ⟨some 7, none, .move (.const (.int .i64 6)), []⟩]]) .ret) .skip))) 
 (.seq 
 (.seq (.ops [.grp none [⟨some 27, none, .move (.tmp 0), []⟩, ⟨some 28, none, .nonnil (.tmp 27), []⟩, ⟨some 29, none, .faddr 4 (.tmp 28), []⟩, ⟨some 30, none, .load none (.tmp 29), []⟩, ⟨some 31, none, .bin .gtr 3 (.tmp 30) (.const (.int .i64 0)), []⟩, ⟨some 32, none, .move (.tmp 31), []⟩],
  .grp (some (some 32, true)) [⟨some 33, none, .move (.tmp 2), []⟩, ⟨some 34, none, .un .not (.tmp 33), []⟩],
  .grp none [⟨some 35, none, .pick (.tmp 32) (.tmp 34) (.const (.bool false)), []⟩]]) 
 (.cond (.tmp 35) 
 (.seq (.ops [.grp none [⟨some 36, none, .move (.tmp 0), []⟩, ⟨some 37, none, .nonnil (.tmp 36), []⟩, ⟨some 38, none, .faddr 2 (.tmp 37), []⟩, ⟨some 39, none, .load none (.tmp 38), []⟩, ⟨some 40, none, .move (.tmp 1), []⟩, ⟨none, none, .delete .i64 (.tmp 39) (.tmp 40), []⟩]]) 
 (.seq (.ops [.grp none [⟨some 41, none, .move (.tmp 0), []⟩, ⟨some 42, none, .nonnil (.tmp 41), []⟩, ⟨some 43, none, .faddr 4 (.tmp 42), []⟩, ⟨some 44, none, .load none (.tmp 43), []⟩, ⟨some 45, none, .bin .sub 3 (.tmp 44) (.const (.int .i64 1)), []⟩, ⟨some 46, none, .nonnil (.tmp 41), []⟩, ⟨some 47, none, .faddr 4 (.tmp 46), []⟩, ⟨none, none, .store 1 (.tmp 47) (.tmp 45), []⟩]]) 
 (.seq (.ops [.grp none [⟨some 6, none, .move (.const (.bool true)), []⟩, ⟨some 7, none, .move (.const (.int .i64 0)), []⟩]]) .ret))) .skip)) 
 (.seq (.ops [.grp none [⟨some 48, none, .move (.tmp 0), []⟩, ⟨some 49, none, .nonnil (.tmp 48), []⟩, ⟨some 50, none, .faddr 2 (.tmp 49), []⟩, ⟨some 51, none, .load none (.tmp 50), []⟩, ⟨some 52, none, .move (.tmp 1), []⟩, ⟨none, none, .update .i64 (.tmp 51) (.tmp 52) (.const (.int .i64 1)), []⟩]]) 
 (.seq 
 (.seq (.ops [.grp none [⟨some 53, none, .move (.tmp 2), []⟩]]) 
 (.cond (.tmp 53) (.ops [.grp none [⟨some 54, none, .move (.tmp 0), []⟩, ⟨some 55, none, .nonnil (.tmp 54), []⟩, ⟨some 56, none, .faddr 3 (.tmp 55), []⟩, ⟨some 57, none, .load none (.tmp 56), []⟩, ⟨some 58, none, .bin .add 3 (.tmp 57) (.const (.int .i64 1)), []⟩, ⟨some 59, none, .nonnil (.tmp 54), []⟩, ⟨some 60, none, .faddr 3 (.tmp 59), []⟩, ⟨none, none, .store 1 (.tmp 60) (.tmp 58), []⟩]]) .skip)) 
 (.seq (.ops [.grp none [⟨some 6, none, .move (.const (.bool false)), []⟩, ⟨some 7, none, .move (.const (.int .i64 0)), []⟩]]) .ret))))))⟩
theorem low39 : lowG Try.prog 39 = some g39 := by kernel_rfl

def g40 : GFn :=
 ⟨6, [⟨2, none⟩], .seq (.ops [.grp none [⟨some 1, none, .box 54 (.tmp 0), []⟩, ⟨some 2, none, .move (.const (.int .i64 0)), []⟩]]) 
 (.seq (.ops [.grp none [⟨some 3, none, .load none (.tmp 1), []⟩, ⟨some 4, none, .fn 66 #[.tmp 1], []⟩, ⟨some 5, none, .call 56 #[.tmp 3, .tmp 4], []⟩, ⟨some 2, none, .move (.tmp 5), []⟩]]) .ret)⟩
theorem low40 : lowG Try.prog 40 = some g40 := by kernel_rfl

def g41 : GFn :=
 ⟨25, [⟨4, none⟩, ⟨5, none⟩], .seq (.ops [.grp none [⟨some 4, none, .move (.const (.pointer none)), []⟩, ⟨some 5, none, .move (.const (.int .i64 0)), []⟩]]) 
 (.seq 
 (.seq (.ops [.grp none [⟨some 6, none, .move (.tmp 0), []⟩, ⟨some 7, none, .bin .neq 3 (.tmp 6) (.const (.int .i64 3)), []⟩, ⟨some 8, none, .move (.tmp 7), []⟩],
  .grp (some (some 8, true)) [⟨some 9, none, .move (.tmp 0), []⟩, ⟨some 10, none, .bin .neq 3 (.tmp 9) (.const (.int .i64 6)), []⟩],
  .grp none [⟨some 11, none, .pick (.tmp 8) (.tmp 10) (.const (.bool false)), []⟩, ⟨some 12, none, .move (.tmp 11), []⟩],
  .grp (some (some 12, false)) [⟨some 13, none, .move (.tmp 1), []⟩, ⟨some 14, none, .bin .lss 3 (.tmp 13) (.const (.int .i64 0)), []⟩],
  .grp none [⟨some 15, none, .pick (.tmp 12) (.const (.bool true)) (.tmp 14), []⟩, ⟨some 16, none, .move (.tmp 15), []⟩],
  .grp (some (some 16, false)) [⟨some 17, none, .move (.tmp 1), []⟩, ⟨some 18, none, .bin .gtr 3 (.tmp 17) (.const (.int .i64 64)), []⟩],
  .grp none [⟨some 19, none, .pick (.tmp 16) (.const (.bool true)) (.tmp 18), []⟩]]) 
 (.cond (.tmp 19) 
 (.seq (.ops [.grp none [⟨some 4, none, .move (.const (.pointer none)), []⟩, ⟨some 5, none, .move (.const (.int .i64 2)), []⟩]]) .ret) .skip)) 
 (.seq (.ops [.grp none [⟨some 20, none, .move (.tmp 0), []⟩, ⟨some 21, none, .move (.tmp 1), []⟩, ⟨some 22, none, .makeMap, []⟩, ⟨some 23, none, .build #[(0, 1), (1, 1), (2, 1), (3, 1), (4, 1)] #[.int .i64 0, .int .i64 0, .map none, .int .i64 0, .int .i64 0] [(0, .tmp 20), (1, .tmp 21), (2, .tmp 22)], []⟩, ⟨some 24, none, .box 99 (.tmp 23), []⟩, ⟨some 4, none, .move (.tmp 24), []⟩, ⟨some 5, none, .move (.const (.int .i64 0)), []⟩]]) .ret))⟩
theorem low41 : lowG Try.prog 41 = some g41 := by kernel_rfl

def g42 : GFn :=
 ⟨25, [⟨4, none⟩, ⟨5, none⟩], .seq (.ops [.grp none [⟨some 4, none, .move (.const (.pointer none)), []⟩, ⟨some 5, none, .move (.const (.int .i64 0)), []⟩]]) 
 (.seq 
 (.seq (.ops [.grp none [⟨some 6, none, .move (.tmp 0), []⟩, ⟨some 7, none, .bin .neq 3 (.tmp 6) (.const (.int .i64 3)), []⟩, ⟨some 8, none, .move (.tmp 7), []⟩],
  .grp (some (some 8, true)) [⟨some 9, none, .move (.tmp 0), []⟩, ⟨some 10, none, .bin .neq 3 (.tmp 9) (.const (.int .i64 6)), []⟩],
  .grp none [⟨some 11, none, .pick (.tmp 8) (.tmp 10) (.const (.bool false)), []⟩, ⟨some 12, none, .move (.tmp 11), []⟩],
  .grp (some (some 12, false)) [⟨some 13, none, .move (.tmp 1), []⟩, ⟨some 14, none, .bin .lss 3 (.tmp 13) (.const (.int .i64 0)), []⟩],
  .grp none [⟨some 15, none, .pick (.tmp 12) (.const (.bool true)) (.tmp 14), []⟩, ⟨some 16, none, .move (.tmp 15), []⟩],
  .grp (some (some 16, false)) [⟨some 17, none, .move (.tmp 1), []⟩, ⟨some 18, none, .bin .gtr 3 (.tmp 17) (.const (.int .i64 64)), []⟩],
  .grp none [⟨some 19, none, .pick (.tmp 16) (.const (.bool true)) (.tmp 18), []⟩]]) 
 (.cond (.tmp 19) 
 (.seq (.ops [.grp none [⟨some 4, none, .move (.const (.pointer none)), []⟩, ⟨some 5, none, .move (.const (.int .i64 2)), []⟩]]) .ret) .skip)) 
 (.seq (.ops [.grp none [⟨some 20, none, .move (.tmp 0), []⟩, ⟨some 21, none, .move (.tmp 1), []⟩, ⟨some 22, none, .raw (Op.makeSlice 22 (.const (.int .i64 1024)) (.const (.int .i64 1024))) 22, []⟩, ⟨some 23, none, .build #[(0, 1), (1, 1), (2, 1), (3, 1), (4, 1)] #[.int .i64 0, .int .i64 0, .slice none 0 0, .int .i64 0, .int .i64 0] [(0, .tmp 20), (1, .tmp 21), (2, .tmp 22)], []⟩, ⟨some 24, none, .box 75 (.tmp 23), []⟩, ⟨some 4, none, .move (.tmp 24), []⟩, ⟨some 5, none, .move (.const (.int .i64 0)), []⟩]]) .ret))⟩
theorem low42 : lowG Try.prog 42 = some g42 := by kernel_rfl

def g43 : GFn :=
 ⟨22, [⟨2, none⟩], .seq (.ops [.grp none [⟨some 2, none, .move (.const (.slice none 0 0)), []⟩]]) 
 (.seq (.ops [.grp none [⟨some 3, none, .move (.const (.slice none 0 0)), []⟩]]) 
 (.seq 
 (.seq (.ops [.grp none [⟨some 4, none, .move (.const (.int .i64 0)), []⟩]]) 
 (.block 0 
 (.loop 
 (.seq 
 (.seq (.ops [.grp none [⟨some 5, none, .move (.tmp 4), []⟩, ⟨some 6, none, .bin .lss 3 (.tmp 5) (.const (.int .i64 1024)), []⟩]]) 
 (.cond (.tmp 6) .skip (.exit 0))) 
 (.seq 
 (.block 1 
 (.seq (.ops [.grp none [⟨some 9, none, .move (.tmp 0), []⟩, ⟨some 10, none, .nonnil (.tmp 9), []⟩, ⟨some 11, none, .faddr 2 (.tmp 10), []⟩, ⟨some 12, none, .load none (.tmp 11), []⟩, ⟨some 13, none, .move (.tmp 4), []⟩, ⟨some 14, none, .iaddr 1 (.tmp 12) (.tmp 13), []⟩, ⟨some 15, none, .load none (.tmp 14), []⟩, ⟨some 16, none, .bin .eql 3 (.tmp 15) (.const (.int .i64 1)), []⟩]]) 
 (.cond (.tmp 16) (.ops [.grp none [⟨some 17, none, .move (.tmp 3), []⟩, ⟨some 18, none, .move (.tmp 4), []⟩, ⟨some 19, none, .row 3 1 1 #[.int .i64 0] [(0, .tmp 18)], []⟩, ⟨some 20, none, .append 3 1 8 (.tmp 17) (.tmp 19), []⟩, ⟨some 3, none, .move (.tmp 20), []⟩]]) .skip))) (.ops [.grp none [⟨some 7, none, .move (.tmp 4), []⟩, ⟨some 8, none, .bin .add 3 (.tmp 7) (.const (.int .i64 1)), []⟩, ⟨some 4, none, .move (.tmp 8), []⟩]])))))) 
 (.seq (.ops [.grp none [⟨some 21, none, .move (.tmp 3), []⟩, ⟨some 2, none, .move (.tmp 21), []⟩]]) .ret)))⟩
theorem low43 : lowG Try.prog 43 = some g43 := by kernel_rfl

def g44 : GFn :=
 ⟨23, [⟨4, none⟩], .seq (.ops [.grp none [⟨some 4, none, .move (.const (.int .i64 0)), []⟩]]) 
 (.seq (.ops [.grp none [⟨some 5, none, .move (.const (.int .i64 0)), []⟩]]) 
 (.seq 
 (.seq (.ops [.grp none [⟨some 6, none, .move (.const (.int .i64 0)), []⟩]]) 
 (.block 0 
 (.loop 
 (.seq 
 (.seq (.ops [.grp none [⟨some 7, none, .move (.tmp 6), []⟩, ⟨some 8, none, .bin .lss 3 (.tmp 7) (.const (.int .i64 1024)), []⟩]]) 
 (.cond (.tmp 8) .skip (.exit 0))) 
 (.seq 
 (.block 1 
 (.seq (.ops [.grp none [⟨some 11, none, .move (.tmp 0), []⟩, ⟨some 12, none, .nonnil (.tmp 11), []⟩, ⟨some 13, none, .faddr 2 (.tmp 12), []⟩, ⟨some 14, none, .load none (.tmp 13), []⟩, ⟨some 15, none, .move (.tmp 6), []⟩, ⟨some 16, none, .iaddr 1 (.tmp 14) (.tmp 15), []⟩, ⟨some 17, none, .load none (.tmp 16), []⟩, ⟨some 18, none, .move (.tmp 1), []⟩, ⟨some 19, none, .bin .eql 3 (.tmp 17) (.tmp 18), []⟩]]) 
 (.cond (.tmp 19) (.ops [.grp none [⟨some 20, none, .move (.tmp 5), []⟩, ⟨some 21, none, .bin .add 3 (.tmp 20) (.const (.int .i64 1)), []⟩, ⟨some 5, none, .move (.tmp 21), []⟩]]) .skip))) (.ops [.grp none [⟨some 9, none, .move (.tmp 6), []⟩, ⟨some 10, none, .bin .add 3 (.tmp 9) (.const (.int .i64 1)), []⟩, ⟨some 6, none, .move (.tmp 10), []⟩]])))))) 
 (.seq (.ops [.grp none [⟨some 22, none, .move (.tmp 5), []⟩, ⟨some 4, none, .move (.tmp 22), []⟩]]) .ret)))⟩
theorem low44 : lowG Try.prog 44 = some g44 := by kernel_rfl

def g45 : GFn :=
 ⟨6, [⟨2, none⟩], .seq (.ops [.grp none [⟨some 1, none, .box 54 (.tmp 0), []⟩, ⟨some 2, none, .move (.const (.int .i64 0)), []⟩]]) 
 (.seq (.ops [.grp none [⟨some 3, none, .load none (.tmp 1), []⟩, ⟨some 4, none, .fn 67 #[.tmp 1], []⟩, ⟨some 5, none, .call 56 #[.tmp 3, .tmp 4], []⟩, ⟨some 2, none, .move (.tmp 5), []⟩]]) .ret)⟩
theorem low45 : lowG Try.prog 45 = some g45 := by kernel_rfl

def g46 : GFn :=
 ⟨24, [⟨4, none⟩], .seq (.ops [.grp none [⟨some 4, none, .move (.const (.int .i64 0)), []⟩]]) 
 (.seq 
 (.block 0 
 (.seq (.ops [.grp none [⟨some 6, none, .move (.tmp 0), []⟩, ⟨some 7, none, .bin .eql 54 (.tmp 6) (.const (.pointer none)), []⟩, ⟨some 5, none, .move (.tmp 7), []⟩]]) 
 (.cond (.tmp 5) 
 (.seq (.ops [.grp none [⟨some 4, none, .move (.const (.int .i64 1)), []⟩]]) .ret) 
 (.seq (.ops [.grp none [⟨some 9, none, .move (.tmp 1), []⟩, ⟨some 10, none, .bin .lss 3 (.tmp 9) (.const (.int .i64 0)), []⟩, ⟨some 8, none, .move (.tmp 10), []⟩]]) 
 (.cond (.tmp 8) 
 (.seq (.ops [.grp none [⟨some 4, none, .move (.const (.int .i64 2)), []⟩]]) .ret) 
 (.seq (.ops [.grp none [⟨some 12, none, .move (.tmp 1), []⟩, ⟨some 13, none, .move (.tmp 0), []⟩, ⟨some 14, none, .call 55 #[.tmp 13], []⟩, ⟨some 15, none, .bin .gtr 3 (.tmp 12) (.tmp 14), []⟩, ⟨some 11, none, .move (.tmp 15), []⟩]]) 
 (.cond (.tmp 11) 
 (.seq (.ops [.grp none [⟨some 4, none, .move (.const (.int .i64 8)), []⟩]]) .ret) .skip))))))) 
 (.seq (.ops [.grp none [⟨some 16, none, .move (.tmp 0), []⟩, ⟨some 17, none, .nonnil (.tmp 16), []⟩, ⟨some 18, none, .faddr 3 (.tmp 17), []⟩, ⟨some 19, none, .load none (.tmp 18), []⟩, ⟨some 20, none, .move (.tmp 1), []⟩, ⟨some 21, none, .bin .add 3 (.tmp 19) (.tmp 20), []⟩, ⟨some 22, none, .nonnil (.tmp 16), []⟩, ⟨some 23, none, .faddr 3 (.tmp 22), []⟩, ⟨none, none, .store 1 (.tmp 23) (.tmp 21), []⟩]]) 
 (.seq (.ops [.grp none [⟨some 4, none, .move (.const (.int .i64 0)), []⟩]]) .ret)))⟩
theorem low46 : lowG Try.prog 46 = some g46 := by kernel_rfl

def g47 : GFn :=
 ⟨26, [⟨4, none⟩], .seq (.ops [.grp none [⟨some 4, none, .move (.const (.int .i64 0)), []⟩]]) 
 (.seq 
 (.block 0 
 (.seq (.ops [.grp none [⟨some 6, none, .move (.tmp 0), []⟩, ⟨some 7, none, .bin .eql 54 (.tmp 6) (.const (.pointer none)), []⟩, ⟨some 5, none, .move (.tmp 7), []⟩]]) 
 (.cond (.tmp 5) 
 (.seq (.ops [.grp none [⟨some 4, none, .move (.const (.int .i64 1)), []⟩]]) .ret) 
 (.seq (.ops [.grp none [⟨some 9, none, .move (.tmp 1), []⟩, ⟨some 10, none, .bin .lss 3 (.tmp 9) (.const (.int .i64 0)), []⟩, ⟨some 8, none, .move (.tmp 10), []⟩]]) 
 (.cond (.tmp 8) 
 (.seq (.ops [.grp none [⟨some 4, none, .move (.const (.int .i64 2)), []⟩]]) .ret) 
 (.seq (.ops [.grp none [⟨some 12, none, .move (.tmp 1), []⟩, ⟨some 13, none, .move (.tmp 0), []⟩, ⟨some 14, none, .nonnil (.tmp 13), []⟩, ⟨some 15, none, .faddr 3 (.tmp 14), []⟩, ⟨some 16, none, .load none (.tmp 15), []⟩, ⟨some 17, none, .bin .gtr 3 (.tmp 12) (.tmp 16), []⟩, ⟨some 11, none, .move (.tmp 17), []⟩]]) 
 (.cond (.tmp 11) 
 (.seq (.ops [.grp none [⟨some 4, none, .move (.const (.int .i64 3)), []⟩]]) .ret) .skip))))))) 
 (.seq (.ops [.grp none [⟨some 18, none, .move (.tmp 0), []⟩, ⟨some 19, none, .nonnil (.tmp 18), []⟩, ⟨some 20, none, .faddr 3 (.tmp 19), []⟩, ⟨some 21, none, .load none (.tmp 20), []⟩, ⟨some 22, none, .move (.tmp 1), []⟩, ⟨some 23, none, .bin .sub 3 (.tmp 21) (.tmp 22), []⟩, ⟨some 24, none, .nonnil (.tmp 18), []⟩, ⟨some 25, none, .faddr 3 (.tmp 24), []⟩, ⟨none, none, .store 1 (.tmp 25) (.tmp 23), []⟩]]) 
 (.seq (.ops [.grp none [⟨some 4, none, .move (.const (.int .i64 0)), []⟩]]) .ret)))⟩
theorem low47 : lowG Try.prog 47 = some g47 := by kernel_rfl

def g53 : GFn :=
 ⟨11, [⟨4, none⟩], .seq (.ops [.grp none [⟨some 4, none, .move (.const (.slice none 0 0)), []⟩]]) 
 (.seq (.ops [.grp none [⟨some 5, none, .move (.const (.slice none 0 0)), []⟩]]) 
 (.seq 
 (.seq (.ops [.grp none [⟨some 6, none, .move (.tmp 0), []⟩, ⟨some 7, none, .bin .eql 54 (.tmp 6) (.const (.pointer none)), []⟩]]) 
 (.cond (.tmp 7) 
 (.seq (.ops [.grp none [⟨some 8, none, .move (.tmp 5), []⟩, ⟨some 4, none, .move (.tmp 8), []⟩]]) .ret) .skip)) 
 (.seq (.ops [.grp none [⟨some 9, none, .move (.tmp 1), []⟩, ⟨some 10, none, .callv (.tmp 9) #[], []⟩, ⟨some 4, none, .move (.tmp 10), []⟩]]) .ret)))⟩
theorem low53 : lowG Try.prog 53 = some g53 := by kernel_rfl

def g54 : GFn :=
 ⟨24, [⟨1, none⟩], .seq (.ops [.grp none [⟨some 1, none, .move (.const (.slice none 0 0)), []⟩]]) 
 (.seq (.ops [.grp none [⟨some 2, none, .move (.const (.slice none 0 0)), []⟩]]) 
 (.seq 
 (.seq (.ops [.grp none [⟨some 5, none, .load none (.tmp 0), []⟩, ⟨some 6, none, .nonnil (.tmp 5), []⟩, ⟨some 7, none, .faddr 2 (.tmp 6), []⟩, ⟨some 8, none, .load none (.tmp 7), []⟩, ⟨some 9, none, .raw (Op.range 83 (.tmp 8)) 0, []⟩]]) 
 (.block 0 
 (.loop 
 (.seq (.ops [.grp none [⟨some 10, none, .raw (Op.next (.tmp 9) false) 0, []⟩, ⟨some 11, none, .extract (.tmp 10) 0, []⟩]]) 
 (.seq 
 (.cond (.tmp 11) .skip (.exit 0)) 
 (.block 1 
 (.seq (.ops [.grp none [⟨some 12, none, .raw (Op.entry (.tmp 9)) 0, []⟩, ⟨some 13, none, .extract (.tmp 12) 0, []⟩, ⟨some 14, none, .extract (.tmp 12) 1, []⟩, ⟨some 3, none, .move (.tmp 13), []⟩, ⟨some 4, none, .move (.tmp 14), []⟩]]) 
 (.seq (.ops [.grp none [⟨some 15, none, .move (.tmp 4), []⟩, ⟨some 16, none, .bin .eql 3 (.tmp 15) (.const (.int .i64 1)), []⟩]]) 
 (.cond (.tmp 16) (.ops [.grp none [⟨some 17, none, .move (.tmp 2), []⟩, ⟨some 18, none, .move (.tmp 3), []⟩, ⟨some 19, none, .row 3 1 1 #[.int .i64 0] [(0, .tmp 18)], []⟩, ⟨some 20, none, .append 3 1 8 (.tmp 17) (.tmp 19), []⟩, ⟨some 2, none, .move (.tmp 20), []⟩]]) .skip))))))))) 
 (.seq (.ops [.grp none [⟨some 21, none, .move (.tmp 2), []⟩, ⟨some 22, none, .call 50 #[.tmp 21], []⟩]]) 
 (.seq (.ops [.grp none [⟨some 23, none, .move (.tmp 2), []⟩, ⟨some 1, none, .move (.tmp 23), []⟩]]) .ret))))⟩
theorem low54 : lowG Try.prog 54 = some g54 := by kernel_rfl

def g55 : GFn :=
 ⟨11, [⟨2, none⟩], .seq (.ops [.grp none [⟨some 2, none, .move (.const (.int .i64 0)), []⟩]]) 
 (.seq (.ops [.grp none [⟨some 3, none, .move (.tmp 0), []⟩, ⟨some 6, none, .move (.tmp 0), []⟩, ⟨some 7, none, .nonnil (.tmp 6), []⟩, ⟨some 8, none, .faddr 3 (.tmp 7), []⟩, ⟨some 9, none, .load none (.tmp 8), []⟩, ⟨some 4, none, .call 32 #[.tmp 3], [⟨some 9, none, .load none (.tmp 8)⟩]⟩, ⟨some 5, none, .len (.tmp 4), []⟩, ⟨some 10, none, .bin .sub 3 (.tmp 5) (.tmp 9), []⟩, ⟨some 2, none, .move (.tmp 10), []⟩]]) .ret)⟩
theorem low55 : lowG Try.prog 55 = some g55 := by kernel_rfl

def g56 : GFn :=
 ⟨11, [⟨4, none⟩], .seq (.ops [.grp none [⟨some 4, none, .move (.const (.int .i64 0)), []⟩]]) 
 (.seq (.ops [.grp none [⟨some 5, none, .move (.const (.int .i64 0)), []⟩]]) 
 (.seq 
 (.seq (.ops [.grp none [⟨some 6, none, .move (.tmp 0), []⟩, ⟨some 7, none, .bin .eql 54 (.tmp 6) (.const (.pointer none)), []⟩]]) 
 (.cond (.tmp 7) 
 (.seq (.ops [.grp none [⟨some 8, none, .move (.tmp 5), []⟩, ⟨some 4, none, .move (.tmp 8), []⟩]]) .ret) .skip)) 
 (.seq (.ops [.grp none [⟨some 9, none, .move (.tmp 1), []⟩, ⟨some 10, none, .callv (.tmp 9) #[], []⟩, ⟨some 4, none, .move (.tmp 10), []⟩]]) .ret)))⟩
theorem low56 : lowG Try.prog 56 = some g56 := by kernel_rfl

def g57 : GFn :=
 ⟨6, [⟨1, none⟩], .seq (.ops [.grp none [⟨some 1, none, .move (.const (.int .i64 0)), []⟩]]) 
 (.seq (.ops [.grp none [⟨some 2, none, .load none (.tmp 0), []⟩, ⟨some 3, none, .nonnil (.tmp 2), []⟩, ⟨some 4, none, .faddr 3 (.tmp 3), []⟩, ⟨some 5, none, .load none (.tmp 4), []⟩, ⟨some 1, none, .move (.tmp 5), []⟩]]) .ret)⟩
theorem low57 : lowG Try.prog 57 = some g57 := by kernel_rfl

def g58 : GFn :=
 ⟨43, [⟨4, none⟩], .seq (.ops [.grp none [⟨some 4, none, .move (.const (.int .i64 0)), []⟩]]) 
 (.seq 
 (.block 0 
 (.seq (.ops [.grp none [⟨some 8, none, .move (.tmp 0), []⟩, ⟨some 9, none, .bin .eql 54 (.tmp 8) (.const (.pointer none)), []⟩, ⟨some 7, none, .move (.tmp 9), []⟩]]) 
 (.cond (.tmp 7) 
 (.seq (.ops [.grp none [⟨some 4, none, .move (.const (.int .i64 1)), []⟩]]) .ret) 
 (.seq (.ops [.grp none [⟨some 11, none, .move (.tmp 1), []⟩, ⟨some 12, none, .bin .lss 3 (.tmp 11) (.const (.int .i64 0)), []⟩, ⟨some 13, none, .move (.tmp 12), []⟩],
  .grp (some (some 13, false)) [⟨some 14, none, .move (.tmp 1), []⟩, ⟨some 15, none, .move (.tmp 0), []⟩, ⟨some 16, none, .nonnil (.tmp 15), []⟩, ⟨some 17, none, .faddr 0 (.tmp 16), []⟩, ⟨some 18, none, .load none (.tmp 17), []⟩, ⟨some 19, none, .bin .shl 3 (.const (.int .i64 1)) (.tmp 18), []⟩, ⟨some 20, none, .bin .sub 3 (.const (.int .i64 1024)) (.tmp 19), []⟩, ⟨some 21, none, .bin .gtr 3 (.tmp 14) (.tmp 20), []⟩],
  .grp none [⟨some 22, none, .pick (.tmp 13) (.const (.bool true)) (.tmp 21), []⟩, ⟨some 10, none, .move (.tmp 22), []⟩]]) 
 (.cond (.tmp 10) 
 (.seq (.ops [.grp none [⟨some 4, none, .move (.const (.int .i64 3)), []⟩]]) .ret) 
 (.seq (.ops [.grp none [⟨some 24, none, .move (.tmp 1), []⟩, ⟨some 25, none, .move (.tmp 0), []⟩, ⟨some 26, none, .nonnil (.tmp 25), []⟩, ⟨some 27, none, .faddr 0 (.tmp 26), []⟩, ⟨some 28, none, .load none (.tmp 27), []⟩, ⟨some 29, none, .bin .shl 3 (.const (.int .i64 1)) (.tmp 28), []⟩, ⟨some 30, none, .bin .sub 3 (.tmp 29) (.const (.int .i64 1)), []⟩, ⟨some 31, none, .bin .and 3 (.tmp 24) (.tmp 30), []⟩, ⟨some 32, none, .bin .neq 3 (.tmp 31) (.const (.int .i64 0)), []⟩, ⟨some 23, none, .move (.tmp 32), []⟩]]) 
 (.cond (.tmp 23) 
 (.seq (.ops [.grp none [⟨some 4, none, .move (.const (.int .i64 4)), []⟩]]) .ret) .skip))))))) 
 (.seq 
 (.seq (.ops [.grp none [⟨some 34, none, .move (.tmp 0), []⟩, ⟨some 35, none, .nonnil (.tmp 34), []⟩, ⟨some 36, none, .faddr 2 (.tmp 35), []⟩, ⟨some 37, none, .load none (.tmp 36), []⟩, ⟨some 38, none, .move (.tmp 1), []⟩, ⟨some 39, none, .lookup .i64 (.int .i64 0) (.tmp 37) (.tmp 38) true, []⟩, ⟨some 33, none, .move (.tmp 39), []⟩, ⟨some 40, none, .extract (.tmp 33) 0, []⟩, ⟨some 41, none, .extract (.tmp 33) 1, []⟩, ⟨some 5, none, .move (.tmp 40), []⟩, ⟨some 6, none, .move (.tmp 41), []⟩]]) 
 (.seq (.ops [.grp none [⟨some 42, none, .move (.tmp 6), []⟩]]) 
 (.cond (.tmp 42) 
 (.seq (.ops [.grp none [⟨some 4, none, .move (.const (.int .i64 7)), []⟩]]) .ret) .skip))) 
 (.seq (.ops [.grp none [⟨some 4, none, .move (.const (.int .i64 0)), []⟩]]) .ret)))⟩
theorem low58 : lowG Try.prog 58 = some g58 := by kernel_rfl

def g59 : GFn :=
 ⟨18, [⟨4, none⟩], .seq (.ops [.grp none [⟨some 4, none, .move (.const (.int .i64 0)), []⟩]]) 
 (.seq (.ops [.grp none [⟨some 6, none, .move (.tmp 0), []⟩, ⟨some 7, none, .move (.tmp 1), []⟩, ⟨some 8, none, .call 75 #[.tmp 6, .tmp 7], []⟩, ⟨some 5, none, .move (.tmp 8), []⟩]]) 
 (.seq 
 (.seq (.ops [.grp none [⟨some 9, none, .move (.tmp 5), []⟩, ⟨some 10, none, .bin .eql 27 (.tmp 9) (.const (.int .i64 0)), []⟩]]) 
 (.cond (.tmp 10) (.ops [.grp none [⟨some 11, none, .move (.tmp 0), []⟩, ⟨some 12, none, .nonnil (.tmp 11), []⟩, ⟨some 13, none, .faddr 2 (.tmp 12), []⟩, ⟨some 14, none, .load none (.tmp 13), []⟩, ⟨some 15, none, .move (.tmp 1), []⟩, ⟨some 16, none, .iaddr 1 (.tmp 14) (.tmp 15), []⟩, ⟨none, none, .store 1 (.tmp 16) (.const (.int .i64 1)), []⟩]]) .skip)) 
 (.seq (.ops [.grp none [⟨some 17, none, .move (.tmp 5), []⟩, ⟨some 4, none, .move (.tmp 17), []⟩]]) .ret)))⟩
theorem low59 : lowG Try.prog 59 = some g59 := by kernel_rfl

def g60 : GFn :=
 ⟨28, [⟨2, none⟩, ⟨3, none⟩], .seq (.ops [.grp none [⟨some 2, none, .move (.const (.int .i64 0)), []⟩, ⟨some 3, none, .move (.const (.int .i64 0)), []⟩]]) 
 (.seq (.ops [.grp none [⟨some 6, none, .move (.tmp 0), []⟩, ⟨some 7, none, .call 43 #[.tmp 6], []⟩, ⟨some 4, none, .move (.tmp 7), []⟩]]) 
 (.seq 
 (.seq (.ops [.grp none [⟨some 8, none, .move (.tmp 4), []⟩, ⟨some 9, none, .len (.tmp 8), []⟩, ⟨some 10, none, .move (.tmp 0), []⟩, ⟨some 11, none, .nonnil (.tmp 10), []⟩, ⟨some 12, none, .faddr 3 (.tmp 11), []⟩, ⟨some 13, none, .load none (.tmp 12), []⟩, ⟨some 14, none, .bin .leq 3 (.tmp 9) (.tmp 13), []⟩]]) 
 (.cond (.tmp 14) 
 (.seq (.ops [.grp none [⟨some 2, none, .move (.const (.int .i64 0)), []⟩, ⟨some 3, none, .move (.const (.int .i64 12)), []⟩]]) .ret) .skip)) 
 (.seq (.ops [.grp none [⟨some 15, none, .move (.tmp 4), []⟩, ⟨some 16, none, .move (.tmp 4), []⟩, ⟨some 17, none, .len (.tmp 16), []⟩, ⟨some 18, none, .bin .sub 3 (.tmp 17) (.const (.int .i64 1)), []⟩, ⟨some 19, none, .iaddr 1 (.tmp 15) (.tmp 18), []⟩, ⟨some 20, none, .load none (.tmp 19), []⟩, ⟨some 5, none, .move (.tmp 20), []⟩]]) 
 (.seq (.ops [.grp none [⟨some 21, none, .move (.tmp 0), []⟩, ⟨some 22, none, .nonnil (.tmp 21), []⟩, ⟨some 23, none, .faddr 2 (.tmp 22), []⟩, ⟨some 24, none, .load none (.tmp 23), []⟩, ⟨some 25, none, .move (.tmp 5), []⟩, ⟨some 26, none, .iaddr 1 (.tmp 24) (.tmp 25), []⟩, ⟨none, none, .store 1 (.tmp 26) (.const (.int .i64 0)), []⟩]]) 
 (.seq (.ops [.grp none [⟨some 27, none, .move (.tmp 5), []⟩, ⟨some 2, none, .move (.tmp 27), []⟩, ⟨some 3, none, .move (.const (.int .i64 0)), []⟩]]) .ret)))))⟩
theorem low60 : lowG Try.prog 60 = some g60 := by kernel_rfl

def g61 : GFn :=
 ⟨26, [⟨4, none⟩], .seq (.ops [.grp none [⟨some 4, none, .move (.const (.int .i64 0)), []⟩]]) 
 (.seq 
 (.seq (.ops [.grp none [⟨some 5, none, .move (.tmp 1), []⟩, ⟨some 6, none, .bin .lss 3 (.tmp 5) (.const (.int .i64 0)), []⟩]]) 
 (.cond (.tmp 6) 
 (.seq (.ops [.grp none [⟨some 4, none, .move (.const (.int .i64 2)), []⟩]]) .ret) .skip)) 
 (.seq 
 (.seq (.ops [.grp none [⟨some 7, none, .move (.tmp 0), []⟩, ⟨some 10, none, .move (.tmp 0), []⟩, ⟨some 11, none, .nonnil (.tmp 10), []⟩, ⟨some 12, none, .faddr 3 (.tmp 11), []⟩, ⟨some 13, none, .load none (.tmp 12), []⟩, ⟨some 15, none, .move (.tmp 1), []⟩, ⟨some 8, none, .call 43 #[.tmp 7], [⟨some 13, none, .load none (.tmp 12)⟩]⟩, ⟨some 9, none, .len (.tmp 8), []⟩, ⟨some 14, none, .bin .sub 3 (.tmp 9) (.tmp 13), []⟩, ⟨some 16, none, .bin .lss 3 (.tmp 14) (.tmp 15), []⟩]]) 
 (.cond (.tmp 16) 
 (.seq (.ops [.grp none [⟨some 4, none, .move (.const (.int .i64 8)), []⟩]]) .ret) .skip)) 
 (.seq (.ops [.grp none [⟨some 17, none, .move (.tmp 0), []⟩, ⟨some 18, none, .move (.tmp 0), []⟩, ⟨some 19, none, .nonnil (.tmp 18), []⟩, ⟨some 20, none, .faddr 3 (.tmp 19), []⟩, ⟨some 21, none, .load none (.tmp 20), []⟩, ⟨some 22, none, .move (.tmp 1), []⟩, ⟨some 23, none, .bin .add 3 (.tmp 21) (.tmp 22), []⟩, ⟨some 24, none, .nonnil (.tmp 17), []⟩, ⟨some 25, none, .faddr 3 (.tmp 24), []⟩, ⟨none, none, .store 1 (.tmp 25) (.tmp 23), []⟩]]) 
 (.seq (.ops [.grp none [⟨some 4, none, .move (.const (.int .i64 0)), []⟩]]) .ret))))⟩
theorem low61 : lowG Try.prog 61 = some g61 := by kernel_rfl

def g62 : GFn :=
 ⟨22, [⟨4, none⟩], .seq (.ops [.grp none [⟨some 4, none, .move (.const (.int .i64 0)), []⟩]]) 
 (.seq 
 (.seq (.ops [.grp none [⟨some 5, none, .move (.tmp 1), []⟩, ⟨some 6, none, .bin .lss 3 (.tmp 5) (.const (.int .i64 0)), []⟩]]) 
 (.cond (.tmp 6) 
 (.seq (.ops [.grp none [⟨some 4, none, .move (.const (.int .i64 2)), []⟩]]) .ret) .skip)) 
 (.seq 
 (.seq (.ops [.grp none [⟨some 7, none, .move (.tmp 0), []⟩, ⟨some 8, none, .nonnil (.tmp 7), []⟩, ⟨some 9, none, .faddr 3 (.tmp 8), []⟩, ⟨some 10, none, .load none (.tmp 9), []⟩, ⟨some 11, none, .move (.tmp 1), []⟩, ⟨some 12, none, .bin .lss 3 (.tmp 10) (.tmp 11), []⟩]]) 
 (.cond (.tmp 12) 
 (.seq (.ops [.grp none [⟨some 4, none, .move (.const (.int .i64 3)), []⟩]]) .ret) .skip)) 
 (.seq (.ops [.grp none [⟨some 13, none, .move (.tmp 0), []⟩, ⟨some 14, none, .move (.tmp 0), []⟩, ⟨some 15, none, .nonnil (.tmp 14), []⟩, ⟨some 16, none, .faddr 3 (.tmp 15), []⟩, ⟨some 17, none, .load none (.tmp 16), []⟩, ⟨some 18, none, .move (.tmp 1), []⟩, ⟨some 19, none, .bin .sub 3 (.tmp 17) (.tmp 18), []⟩, ⟨some 20, none, .nonnil (.tmp 13), []⟩, ⟨some 21, none, .faddr 3 (.tmp 20), []⟩, ⟨none, none, .store 1 (.tmp 21) (.tmp 19), []⟩]]) 
 (.seq (.ops [.grp none [⟨some 4, none, .move (.const (.int .i64 0)), []⟩]]) .ret))))⟩
theorem low62 : lowG Try.prog 62 = some g62 := by kernel_rfl

def g63 : GFn :=
 ⟨48, [⟨4, none⟩, ⟨5, none⟩], .seq (.ops [.grp none [⟨some 4, none, .move (.const (.int .i64 0)), []⟩, ⟨some 5, none, .move (.const (.int .i64 0)), []⟩]]) 
 (.seq (.ops [.grp none [⟨some 7, none, .move (.tmp 0), []⟩, ⟨some 8, none, .call 43 #[.tmp 7], []⟩, ⟨some 6, none, .move (.tmp 8), []⟩]]) 
 (.seq 
 (.seq (.ops [.grp none [⟨some 9, none, .move (.tmp 1), []⟩, ⟨some 10, none, .move (.tmp 9), []⟩],
  .grp (some (some 10, true)) [⟨some 11, none, .move (.tmp 0), []⟩, ⟨some 12, none, .nonnil (.tmp 11), []⟩, ⟨some 13, none, .faddr 3 (.tmp 12), []⟩, ⟨some 14, none, .load none (.tmp 13), []⟩, ⟨some 15, none, .bin .eql 3 (.tmp 14) (.const (.int .i64 0)), []⟩],
  .grp none [⟨some 16, none, .pick (.tmp 10) (.tmp 15) (.const (.bool false)), []⟩]]) 
 (.cond (.tmp 16) 
 (.seq (.ops [.grp none [⟨some 4, none, .move (.const (.int .i64 0)), []⟩, ⟨some 5, none, .move (.const (.int .i64 3)), []⟩]]) .ret) .skip)) 
 (.seq 
 (.seq (.ops [.grp none [⟨some 17, none, .move (.tmp 1), []⟩, ⟨some 18, none, .un .not (.tmp 17), []⟩, ⟨some 19, none, .move (.tmp 18), []⟩],
  .grp (some (some 19, true)) [⟨some 20, none, .move (.tmp 6), []⟩, ⟨some 21, none, .len (.tmp 20), []⟩, ⟨some 22, none, .move (.tmp 0), []⟩, ⟨some 23, none, .nonnil (.tmp 22), []⟩, ⟨some 24, none, .faddr 3 (.tmp 23), []⟩, ⟨some 25, none, .load none (.tmp 24), []⟩, ⟨some 26, none, .bin .leq 3 (.tmp 21) (.tmp 25), []⟩],
  .grp none [⟨some 27, none, .pick (.tmp 19) (.tmp 26) (.const (.bool false)), []⟩]]) 
 (.cond (.tmp 27) 
 (.seq (.ops [.grp none [⟨some 4, none, .move (.const (.int .i64 0)), []⟩, ⟨some 5, none, .move (.const (.int .i64 9)), []⟩]]) .ret) .skip)) 
 (.seq (.ops [.grp none [⟨some 28, none, .move (.tmp 0), []⟩, ⟨some 29, none, .nonnil (.tmp 28), []⟩, ⟨some 30, none, .faddr 2 (.tmp 29), []⟩, ⟨some 31, none, .load none (.tmp 30), []⟩, ⟨some 32, none, .move (.tmp 6), []⟩, ⟨some 33, none, .iaddr 1 (.tmp 32) (.const (.int .i64 0)), []⟩, ⟨some 34, none, .load none (.tmp 33), []⟩, ⟨some 35, none, .iaddr 1 (.tmp 31) (.tmp 34), []⟩, ⟨none, none, .store 1 (.tmp 35) (.const (.int .i64 2)), []⟩]]) 
 (.seq 
 (.seq (.ops [.grp none [⟨some 36, none, .move (.tmp 1), []⟩]]) 
 (.cond (.tmp 36) (.ops [.grp none [⟨some 37, none, .move (.tmp 0), []⟩, ⟨some 38, none, .move (.tmp 0), []⟩, ⟨some 39, none, .nonnil (.tmp 38), []⟩, ⟨some 40, none, .faddr 3 (.tmp 39), []⟩, ⟨some 41, none, .load none (.tmp 40), []⟩, ⟨some 42, none, .bin .sub 3 (.tmp 41) (.const (.int .i64 1)), []⟩, ⟨some 43, none, .nonnil (.tmp 37), []⟩, ⟨some 44, none, .faddr 3 (.tmp 43), []⟩, ⟨none, none, .store 1 (.tmp 44) (.tmp 42), []⟩]]) .skip)) 
 (.seq (.ops [.grp none [⟨some 45, none, .move (.tmp 6), []⟩, ⟨some 46, none, .iaddr 1 (.tmp 45) (.const (.int .i64 0)), []⟩, ⟨some 47, none, .load none (.tmp 46), []⟩, ⟨some 4, none, .move (.tmp 47), []⟩, ⟨some 5, none, .move (.const (.int .i64 0)), []⟩]]) .ret))))))⟩
theorem low63 : lowG Try.prog 63 = some g63 := by kernel_rfl

def g64 : GFn :=
 ⟨35, [⟨4, none⟩], .seq (.ops [.grp none [⟨some 4, none, .move (.const (.int .i64 0)), []⟩]]) 
 (.seq (.ops [.grp none [⟨some 6, none, .move (.tmp 0), []⟩, ⟨some 7, none, .move (.tmp 1), []⟩, ⟨some 8, none, .call 75 #[.tmp 6, .tmp 7], []⟩, ⟨some 5, none, .move (.tmp 8), []⟩]]) 
 (.seq 
 (.seq (.ops [.grp none [⟨some 9, none, .move (.tmp 5), []⟩, ⟨some 10, none, .bin .neq 27 (.tmp 9) (.const (.int .i64 0)), []⟩]]) 
 (.cond (.tmp 10) 
 (.seq (.ops [.grp none [⟨some 11, none, .move (.tmp 5), []⟩, ⟨some 4, none, .move (.tmp 11), []⟩]]) .ret) .skip)) 
 (.seq 
 (.seq (.ops [.grp none [⟨some 12, none, .move (.tmp 0), []⟩, ⟨some 13, none, .nonnil (.tmp 12), []⟩, ⟨some 14, none, .faddr 4 (.tmp 13), []⟩, ⟨some 15, none, .load none (.tmp 14), []⟩, ⟨some 16, none, .move (.tmp 0), []⟩, ⟨some 17, none, .nonnil (.tmp 16), []⟩, ⟨some 18, none, .faddr 1 (.tmp 17), []⟩, ⟨some 19, none, .load none (.tmp 18), []⟩, ⟨some 20, none, .bin .geq 3 (.tmp 15) (.tmp 19), []⟩]]) 
 (.cond (.tmp 20) 
 (.seq (.ops [.grp none [⟨some 4, none, .move (.const (.int .i64 13)), []⟩]]) .ret) .skip)) 
 (.seq (.ops [.grp none [⟨some 21, none, .move (.tmp 0), []⟩, ⟨some 22, none, .nonnil (.tmp 21), []⟩, ⟨some 23, none, .faddr 2 (.tmp 22), []⟩, ⟨some 24, none, .load none (.tmp 23), []⟩, ⟨some 25, none, .move (.tmp 1), []⟩, ⟨some 26, none, .iaddr 1 (.tmp 24) (.tmp 25), []⟩, ⟨none, none, .store 1 (.tmp 26) (.const (.int .i64 2)), []⟩]]) 
 (.seq (.ops [.grp none [⟨some 27, none, .move (.tmp 0), []⟩, ⟨some 28, none, .move (.tmp 0), []⟩, ⟨some 29, none, .nonnil (.tmp 28), []⟩, ⟨some 30, none, .faddr 4 (.tmp 29), []⟩, ⟨some 31, none, .load none (.tmp 30), []⟩, ⟨some 32, none, .bin .add 3 (.tmp 31) (.const (.int .i64 1)), []⟩, ⟨some 33, none, .nonnil (.tmp 27), []⟩, ⟨some 34, none, .faddr 4 (.tmp 33), []⟩, ⟨none, none, .store 1 (.tmp 34) (.tmp 32), []⟩]]) 
 (.seq (.ops [.grp none [⟨some 4, none, .move (.const (.int .i64 0)), []⟩]]) .ret))))))⟩
theorem low64 : lowG Try.prog 64 = some g64 := by kernel_rfl

def g65 : GFn :=
 ⟨62, [⟨6, none⟩, ⟨7, none⟩], .seq (.ops [.grp none [⟨some 6, none, .move (.const (.bool false)), []⟩, ⟨some 7, none, .move (.const (.int .i64 0)), []⟩]]) 
 (.seq 
 (.seq (.ops [.grp none [⟨some 8, none, .move (.tmp 1), []⟩, ⟨some 9, none, .bin .lss 3 (.tmp 8) (.const (.int .i64 0)), []⟩, ⟨some 10, none, .move (.tmp 9), []⟩],
  .grp (some (some 10, false)) [⟨some 11, none, .move (.tmp 1), []⟩, ⟨some 12, none, .bin .gtr 3 (.tmp 11) (.const (.int .i64 1023)), []⟩],
  .grp none [⟨some 13, none, .pick (.tmp 10) (.const (.bool true)) (.tmp 12), []⟩, ⟨some 14, none, .move (.tmp 13), []⟩],
  .grp (some (some 14, false)) [⟨some 15, none, .move (.tmp 0), []⟩, ⟨some 16, none, .nonnil (.tmp 15), []⟩, ⟨some 17, none, .faddr 2 (.tmp 16), []⟩, ⟨some 18, none, .load none (.tmp 17), []⟩, ⟨some 19, none, .move (.tmp 1), []⟩, ⟨some 20, none, .iaddr 1 (.tmp 18) (.tmp 19), []⟩, ⟨some 21, none, .load none (.tmp 20), []⟩, ⟨some 22, none, .bin .neq 3 (.tmp 21) (.const (.int .i64 2)), []⟩],
  .grp none [⟨some 23, none, .pick (.tmp 14) (.const (.bool true)) (.tmp 22), []⟩]]) 
 (.cond (.tmp 23) 
 (.seq (.ops [.grp none [⟨some 6, none, .move (.const (.bool false)), []⟩, ⟨some 7, none, .move (.const (.int .i64 6)), []⟩]]) .ret) .skip)) 
 (.seq 
 (.seq (.ops [.grp none [⟨some 24, none, .move (.tmp 0), []⟩, ⟨some 25, none, .nonnil (.tmp 24), []⟩, ⟨some 26, none, .faddr 4 (.tmp 25), []⟩, ⟨some 27, none, .load none (.tmp 26), []⟩, ⟨some 28, none, .bin .gtr 3 (.tmp 27) (.const (.int .i64 0)), []⟩, ⟨some 29, none, .move (.tmp 28), []⟩],
  .grp (some (some 29, true)) [⟨some 30, none, .move (.tmp 2), []⟩, ⟨some 31, none, .un .not (.tmp 30), []⟩],
  .grp none [⟨some 32, none, .pick (.tmp 29) (.tmp 31) (.const (.bool false)), []⟩]]) 
 (.cond (.tmp 32) 
 (.seq (.ops [.grp none [⟨some 33, none, .move (.tmp 0), []⟩, ⟨some 34, none, .nonnil (.tmp 33), []⟩, ⟨some 35, none, .faddr 2 (.tmp 34), []⟩, ⟨some 36, none, .load none (.tmp 35), []⟩, ⟨some 37, none, .move (.tmp 1), []⟩, ⟨some 38, none, .iaddr 1 (.tmp 36) (.tmp 37), []⟩, ⟨none, none, .store 1 (.tmp 38) (.const (.int .i64 0)), []⟩]]) 
 (.seq (.ops [.grp none [⟨some 39, none, .move (.tmp 0), []⟩, ⟨some 40, none, .move (.tmp 0), []⟩, ⟨some 41, none, .nonnil (.tmp 40), []⟩, ⟨some 42, none, .faddr 4 (.tmp 41), []⟩, ⟨some 43, none, .load none (.tmp 42), []⟩, ⟨some 44, none, .bin .sub 3 (.tmp 43) (.const (.int .i64 1)), []⟩, ⟨some 45, none, .nonnil (.tmp 39), []⟩, ⟨some 46, none, .faddr 4 (.tmp 45), []⟩, ⟨none, none, .store 1 (.tmp 46) (.tmp 44), []⟩]]) 
 (.seq (.ops [.grp none [⟨some 6, none, .move (.const (.bool true)), []⟩, ⟨some 7, none, .move (.const (.int .i64 0)), []⟩]]) .ret))) .skip)) 
 (.seq (.ops [.grp none [⟨some 47, none, .move (.tmp 0), []⟩, ⟨some 48, none, .nonnil (.tmp 47), []⟩, ⟨some 49, none, .faddr 2 (.tmp 48), []⟩, ⟨some 50, none, .load none (.tmp 49), []⟩, ⟨some 51, none, .move (.tmp 1), []⟩, ⟨some 52, none, .iaddr 1 (.tmp 50) (.tmp 51), []⟩, ⟨none, none, .store 1 (.tmp 52) (.const (.int .i64 1)), []⟩]]) 
 (.seq 
 (.seq (.ops [.grp none [⟨some 53, none, .move (.tmp 2), []⟩]]) 
 (.cond (.tmp 53) (.ops [.grp none [⟨some 54, none, .move (.tmp 0), []⟩, ⟨some 55, none, .move (.tmp 0), []⟩, ⟨some 56, none, .nonnil (.tmp 55), []⟩, ⟨some 57, none, .faddr 3 (.tmp 56), []⟩, ⟨some 58, none, .load none (.tmp 57), []⟩, ⟨some 59, none, .bin .add 3 (.tmp 58) (.const (.int .i64 1)), []⟩, ⟨some 60, none, .nonnil (.tmp 54), []⟩, ⟨some 61, none, .faddr 3 (.tmp 60), []⟩, ⟨none, none, .store 1 (.tmp 61) (.tmp 59), []⟩]]) .skip)) 
 (.seq (.ops [.grp none [⟨some 6, none, .move (.const (.bool false)), []⟩, ⟨some 7, none, .move (.const (.int .i64 0)), []⟩]]) .ret)))))⟩
theorem low65 : lowG Try.prog 65 = some g65 := by kernel_rfl

def g66 : GFn :=
 ⟨7, [⟨1, none⟩], .seq (.ops [.grp none [⟨some 1, none, .move (.const (.int .i64 0)), []⟩]]) 
 (.seq (.ops [.grp none [⟨some 2, none, .load none (.tmp 0), []⟩, ⟨some 3, none, .nonnil (.tmp 2), []⟩, ⟨some 4, none, .faddr 2 (.tmp 3), []⟩, ⟨some 5, none, .load none (.tmp 4), []⟩, ⟨some 6, none, .lenMap (.tmp 5), []⟩, ⟨some 1, none, .move (.tmp 6), []⟩]]) .ret)⟩
theorem low66 : lowG Try.prog 66 = some g66 := by kernel_rfl

def g67 : GFn :=
 ⟨6, [⟨1, none⟩], .seq (.ops [.grp none [⟨some 1, none, .move (.const (.int .i64 0)), []⟩]]) 
 (.seq (.ops [.grp none [⟨some 2, none, .load none (.tmp 0), []⟩, ⟨some 3, none, .nonnil (.tmp 2), []⟩, ⟨some 4, none, .faddr 4 (.tmp 3), []⟩, ⟨some 5, none, .load none (.tmp 4), []⟩, ⟨some 1, none, .move (.tmp 5), []⟩]]) .ret)⟩
theorem low67 : lowG Try.prog 67 = some g67 := by kernel_rfl

def g75 : GFn :=
 ⟨31, [⟨4, none⟩], .seq (.ops [.grp none [⟨some 4, none, .move (.const (.int .i64 0)), []⟩]]) 
 (.seq (.ops [.grp none [⟨some 6, none, .move (.tmp 0), []⟩, ⟨some 7, none, .nonnil (.tmp 6), []⟩, ⟨some 8, none, .faddr 0 (.tmp 7), []⟩, ⟨some 9, none, .load none (.tmp 8), []⟩, ⟨some 10, none, .call 89 #[.tmp 9], []⟩, ⟨some 5, none, .move (.tmp 10), []⟩]]) 
 (.seq 
 (.seq (.ops [.grp none [⟨some 11, none, .move (.tmp 1), []⟩, ⟨some 12, none, .bin .lss 3 (.tmp 11) (.const (.int .i64 0)), []⟩, ⟨some 13, none, .move (.tmp 12), []⟩],
  .grp (some (some 13, false)) [⟨some 14, none, .move (.tmp 1), []⟩, ⟨some 15, none, .move (.tmp 5), []⟩, ⟨some 16, none, .bin .sub 3 (.const (.int .i64 1024)) (.tmp 15), []⟩, ⟨some 17, none, .bin .gtr 3 (.tmp 14) (.tmp 16), []⟩],
  .grp none [⟨some 18, none, .pick (.tmp 13) (.const (.bool true)) (.tmp 17), []⟩]]) 
 (.cond (.tmp 18) 
 (.seq (.ops [.grp none [⟨some 4, none, .move (.const (.int .i64 3)), []⟩]]) .ret) .skip)) 
 (.seq 
 (.seq (.ops [.grp none [⟨some 19, none, .move (.tmp 1), []⟩, ⟨some 20, none, .move (.tmp 5), []⟩, ⟨some 21, none, .bin .rem 3 (.tmp 19) (.tmp 20), []⟩, ⟨some 22, none, .bin .neq 3 (.tmp 21) (.const (.int .i64 0)), []⟩]]) 
 (.cond (.tmp 22) 
 (.seq (.ops [.grp none [⟨some 4, none, .move (.const (.int .i64 4)), []⟩]]) .ret) .skip)) 
 (.seq 
 (.seq (.ops [.grp none [⟨some 23, none, .move (.tmp 0), []⟩, ⟨some 24, none, .nonnil (.tmp 23), []⟩, ⟨some 25, none, .faddr 2 (.tmp 24), []⟩, ⟨some 26, none, .load none (.tmp 25), []⟩, ⟨some 27, none, .move (.tmp 1), []⟩, ⟨some 28, none, .iaddr 1 (.tmp 26) (.tmp 27), []⟩, ⟨some 29, none, .load none (.tmp 28), []⟩, ⟨some 30, none, .bin .neq 3 (.tmp 29) (.const (.int .i64 0)), []⟩]]) 
 (.cond (.tmp 30) 
 (.seq (.ops [.grp none [⟨some 4, none, .move (.const (.int .i64 7)), []⟩]]) .ret) .skip)) 
 (.seq (.ops [.grp none [⟨some 4, none, .move (.const (.int .i64 0)), []⟩]]) .ret)))))⟩
theorem low75 : lowG Try.prog 75 = some g75 := by kernel_rfl

def g89 : GFn :=
 ⟨7, [⟨2, none⟩], .seq (.ops [.grp none [⟨some 2, none, .move (.const (.int .i64 0)), []⟩]]) 
 (.seq 
 (.seq (.ops [.grp none [⟨some 3, none, .move (.tmp 0), []⟩, ⟨some 4, none, .bin .eql 3 (.tmp 3) (.const (.int .i64 3)), []⟩]]) 
 (.cond (.tmp 4) 
 (.seq (.ops [.grp none [⟨some 2, none, .move (.const (.int .i64 8)), []⟩]]) .ret) .skip)) 
 (.seq 
 (.seq (.ops [.grp none [⟨some 5, none, .move (.tmp 0), []⟩, ⟨some 6, none, .bin .eql 3 (.tmp 5) (.const (.int .i64 6)), []⟩]]) 
 (.cond (.tmp 6) 
 (.seq (.ops [.grp none [⟨some 2, none, .move (.const (.int .i64 64)), []⟩]]) .ret) .skip)) 
 (.seq (.ops [.grp none [⟨some 2, none, .move (.const (.int .i64 1)), []⟩]]) .ret)))⟩
theorem low89 : lowG Try.prog 89 = some g89 := by kernel_rfl

end Go.Proofs.Ytkplodhjceieeaa
