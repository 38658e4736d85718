/-
  Small words of Rmap's functions (seat r3): statements 3-5, 7, 9-23, 27-30, 35.
-/
import Derived.Test.YtcfhhfdkecbphaaRows
import Derived.Test.YtcfhhfdkecbphaaJj
namespace Go.Proofs.Ytcfhhfdkecbphaa
open Go Go.Ideal

def g3 : GFn :=
 ⟨129, [⟨2, none⟩], .seq (.ops [.grp none [⟨some 2, none, .move (.const (.bool false)), []⟩]]) 
 (.seq (.ops [.grp none [⟨some 10, none, .call 7 #[], []⟩, ⟨some 3, none, .move (.tmp 10), []⟩]]) 
 (.seq 
 (.seq (.ops [.grp none [⟨some 11, none, .move (.tmp 3), []⟩, ⟨some 12, none, .bin .eql 23 (.tmp 11) (.const (.pointer none)), []⟩, ⟨some 13, none, .move (.tmp 12), []⟩],
  .grp (some (some 13, false)) [⟨some 14, none, .call 8 #[], []⟩, ⟨some 15, none, .un .not (.tmp 14), []⟩],
  .grp none [⟨some 16, none, .pick (.tmp 13) (.const (.bool true)) (.tmp 15), []⟩]]) 
 (.cond (.tmp 16) 
 (.seq (.ops [.grp none [⟨some 2, none, .move (.const (.bool false)), []⟩]]) .ret) .skip)) 
 (.seq (.ops [.grp none [⟨some 4, none, .move (.const (.int .i64 0)), []⟩]]) 
 (.seq 
 (.seq (.ops [.grp none [⟨some 5, none, .move (.const (.int .i64 0)), []⟩]]) 
 (.block 0 
 (.loop 
 (.seq 
 (.seq (.ops [.grp none [⟨some 17, none, .move (.tmp 5), []⟩, ⟨some 18, none, .move (.tmp 0), []⟩, ⟨some 19, none, .len (.tmp 18), []⟩, ⟨some 20, none, .bin .lss 3 (.tmp 17) (.tmp 19), []⟩, ⟨some 21, none, .move (.tmp 20), []⟩],
  .grp (some (some 21, true)) [⟨some 22, none, .move (.tmp 5), []⟩, ⟨some 23, none, .bin .lss 3 (.tmp 22) (.const (.int .i64 80)), []⟩],
  .grp none [⟨some 24, none, .pick (.tmp 21) (.tmp 23) (.const (.bool false)), []⟩]]) 
 (.cond (.tmp 24) .skip (.exit 0))) 
 (.seq 
 (.block 1 
 (.seq (.ops [.grp none [⟨some 27, none, .move (.tmp 0), []⟩, ⟨some 28, none, .move (.tmp 5), []⟩, ⟨some 29, none, .iaddr 5 (.tmp 27) (.tmp 28), []⟩, ⟨some 30, none, .faddr 0 (.tmp 29), []⟩, ⟨some 31, none, .load none (.tmp 30), []⟩]]) 
 (.block 2 
 (.seq 
 (.seq (.ops [.grp none [⟨some 45, none, .bin .eql 3 (.tmp 31) (.const (.int .i64 0)), []⟩, ⟨some 44, none, .move (.tmp 45), []⟩]]) 
 (.cond (.tmp 44) .skip 
 (.seq (.ops [.grp none [⟨some 46, none, .bin .eql 3 (.tmp 31) (.const (.int .i64 1)), []⟩, ⟨some 44, none, .move (.tmp 46), []⟩]]) 
 (.cond (.tmp 44) .skip (.ops [.grp none [⟨some 47, none, .bin .eql 3 (.tmp 31) (.const (.int .i64 2)), []⟩, ⟨some 44, none, .move (.tmp 47), []⟩]]))))) 
 (.cond (.tmp 44) 
 (.seq (.ops [.grp none [⟨some 48, none, .move (.tmp 3), []⟩, ⟨some 49, none, .move (.tmp 0), []⟩, ⟨some 50, none, .move (.tmp 5), []⟩, ⟨some 51, none, .iaddr 5 (.tmp 49) (.tmp 50), []⟩, ⟨some 52, none, .faddr 1 (.tmp 51), []⟩, ⟨some 53, none, .load none (.tmp 52), []⟩, ⟨some 54, none, .move (.tmp 0), []⟩, ⟨some 55, none, .move (.tmp 5), []⟩, ⟨some 56, none, .iaddr 5 (.tmp 54) (.tmp 55), []⟩, ⟨some 57, none, .faddr 3 (.tmp 56), []⟩, ⟨some 58, none, .load (some 2) (.tmp 57), []⟩, ⟨some 59, none, .call 9 #[.tmp 48, .tmp 53, .tmp 58], []⟩, ⟨some 60, none, .bin .eql 30 (.tmp 59) (.const (.int .i64 0)), []⟩]]) 
 (.cond (.tmp 60) (.ops [.grp none [⟨some 61, none, .move (.tmp 4), []⟩, ⟨some 62, none, .bin .add 3 (.tmp 61) (.const (.int .i64 1)), []⟩, ⟨some 4, none, .move (.tmp 62), []⟩]]) .skip)) 
 (.seq (.ops [.grp none [⟨some 64, none, .bin .eql 3 (.tmp 31) (.const (.int .i64 3)), []⟩, ⟨some 63, none, .move (.tmp 64), []⟩]]) 
 (.cond (.tmp 63) 
 (.seq (.ops [.grp none [⟨some 65, none, .move (.tmp 3), []⟩, ⟨some 66, none, .move (.tmp 0), []⟩, ⟨some 67, none, .move (.tmp 5), []⟩, ⟨some 68, none, .iaddr 5 (.tmp 66) (.tmp 67), []⟩, ⟨some 69, none, .faddr 1 (.tmp 68), []⟩, ⟨some 70, none, .load none (.tmp 69), []⟩, ⟨some 71, none, .move (.tmp 0), []⟩, ⟨some 72, none, .move (.tmp 5), []⟩, ⟨some 73, none, .iaddr 5 (.tmp 71) (.tmp 72), []⟩, ⟨some 74, none, .faddr 3 (.tmp 73), []⟩, ⟨some 75, none, .load (some 2) (.tmp 74), []⟩, ⟨some 76, none, .call 10 #[.tmp 65, .tmp 70, .tmp 75], []⟩, ⟨some 77, none, .bin .eql 30 (.tmp 76) (.const (.int .i64 0)), []⟩]]) 
 (.cond (.tmp 77) (.ops [.grp none [⟨some 78, none, .move (.tmp 4), []⟩, ⟨some 79, none, .bin .sub 3 (.tmp 78) (.const (.int .i64 1)), []⟩, ⟨some 4, none, .move (.tmp 79), []⟩]]) .skip)) (.ops [.grp none [⟨some 32, none, .move (.tmp 3), []⟩, ⟨some 33, none, .move (.tmp 0), []⟩, ⟨some 34, none, .move (.tmp 5), []⟩, ⟨some 35, none, .iaddr 5 (.tmp 33) (.tmp 34), []⟩, ⟨some 36, none, .faddr 1 (.tmp 35), []⟩, ⟨some 37, none, .load none (.tmp 36), []⟩, ⟨some 38, none, .move (.tmp 0), []⟩, ⟨some 39, none, .move (.tmp 5), []⟩, ⟨some 40, none, .iaddr 5 (.tmp 38) (.tmp 39), []⟩, ⟨some 41, none, .faddr 2 (.tmp 40), []⟩, ⟨some 42, none, .load none (.tmp 41), []⟩, ⟨some 43, none, .call 11 #[.tmp 32, .tmp 37, .tmp 42], []⟩]])))))))) (.ops [.grp none [⟨some 25, none, .move (.tmp 5), []⟩, ⟨some 26, none, .bin .add 3 (.tmp 25) (.const (.int .i64 1)), []⟩, ⟨some 5, none, .move (.tmp 26), []⟩]])))))) 
 (.seq (.ops [.grp none [⟨some 80, none, .move (.tmp 3), []⟩, ⟨some 81, none, .call 12 #[.tmp 80], []⟩, ⟨some 6, none, .move (.tmp 81), []⟩]]) 
 (.seq (.ops [.grp none [⟨some 7, none, .move (.const (.int .i64 0)), []⟩]]) 
 (.seq 
 (.seq (.ops [.grp none [⟨some 8, none, .move (.const (.int .i64 0)), []⟩]]) 
 (.block 3 
 (.loop 
 (.seq 
 (.seq (.ops [.grp none [⟨some 82, none, .move (.tmp 8), []⟩, ⟨some 83, none, .move (.tmp 6), []⟩, ⟨some 84, none, .len (.tmp 83), []⟩, ⟨some 85, none, .bin .lss 3 (.tmp 82) (.tmp 84), []⟩]]) 
 (.cond (.tmp 85) .skip (.exit 3))) 
 (.seq 
 (.block 4 
 (.seq (.ops [.grp none [⟨some 88, none, .move (.tmp 3), []⟩, ⟨some 89, none, .move (.tmp 6), []⟩, ⟨some 90, none, .move (.tmp 8), []⟩, ⟨some 91, none, .iaddr 1 (.tmp 89) (.tmp 90), []⟩, ⟨some 92, none, .load none (.tmp 91), []⟩, ⟨some 93, none, .call 13 #[.tmp 88, .tmp 92], []⟩, ⟨some 9, none, .move (.tmp 93), []⟩]]) 
 (.seq 
 (.seq (.ops [.grp none [⟨some 94, none, .move (.tmp 9), []⟩, ⟨some 95, none, .bin .lss 3 (.tmp 94) (.const (.int .i64 1)), []⟩, ⟨some 96, none, .move (.tmp 95), []⟩],
  .grp (some (some 96, false)) [⟨some 97, none, .move (.tmp 9), []⟩, ⟨some 98, none, .move (.tmp 3), []⟩, ⟨some 99, none, .move (.tmp 6), []⟩, ⟨some 100, none, .move (.tmp 8), []⟩, ⟨some 101, none, .iaddr 1 (.tmp 99) (.tmp 100), []⟩, ⟨some 102, none, .load none (.tmp 101), []⟩, ⟨some 103, none, .call 14 #[.tmp 98, .tmp 102], []⟩, ⟨some 104, none, .len (.tmp 103), []⟩, ⟨some 105, none, .bin .neq 3 (.tmp 97) (.tmp 104), []⟩],
  .grp none [⟨some 106, none, .pick (.tmp 96) (.const (.bool true)) (.tmp 105), []⟩, ⟨some 107, none, .move (.tmp 106), []⟩],
  .grp (some (some 107, false)) [⟨some 108, none, .move (.tmp 8), []⟩, ⟨some 109, none, .bin .gtr 3 (.tmp 108) (.const (.int .i64 0)), []⟩, ⟨some 110, none, .move (.tmp 109), []⟩],
  .grp (some (some 110, true)) [⟨some 111, none, .move (.tmp 6), []⟩, ⟨some 112, none, .move (.tmp 8), []⟩, ⟨some 113, none, .iaddr 1 (.tmp 111) (.tmp 112), []⟩, ⟨some 114, none, .load none (.tmp 113), []⟩, ⟨some 115, none, .move (.tmp 6), []⟩, ⟨some 116, none, .move (.tmp 8), []⟩, ⟨some 117, none, .bin .sub 3 (.tmp 116) (.const (.int .i64 1)), []⟩, ⟨some 118, none, .iaddr 1 (.tmp 115) (.tmp 117), []⟩, ⟨some 119, none, .load none (.tmp 118), []⟩, ⟨some 120, none, .bin .leq 3 (.tmp 114) (.tmp 119), []⟩],
  .grp (some (some 107, false)) [⟨some 121, none, .pick (.tmp 110) (.tmp 120) (.const (.bool false)), []⟩],
  .grp none [⟨some 122, none, .pick (.tmp 107) (.const (.bool true)) (.tmp 121), []⟩]]) 
 (.cond (.tmp 122) 
 (.seq (.ops [.grp none [⟨some 2, none, .move (.const (.bool false)), []⟩]]) .ret) .skip)) (.ops [.grp none [⟨some 123, none, .move (.tmp 7), []⟩, ⟨some 124, none, .move (.tmp 9), []⟩, ⟨some 125, none, .bin .add 3 (.tmp 123) (.tmp 124), []⟩, ⟨some 7, none, .move (.tmp 125), []⟩]])))) (.ops [.grp none [⟨some 86, none, .move (.tmp 8), []⟩, ⟨some 87, none, .bin .add 3 (.tmp 86) (.const (.int .i64 1)), []⟩, ⟨some 8, none, .move (.tmp 87), []⟩]])))))) 
 (.seq (.ops [.grp none [⟨some 126, none, .move (.tmp 7), []⟩, ⟨some 127, none, .move (.tmp 4), []⟩, ⟨some 128, none, .bin .eql 3 (.tmp 126) (.tmp 127), []⟩, ⟨some 2, none, .move (.tmp 128), []⟩]]) .ret))))))))⟩
theorem low3 : lowG Try.prog 3 = some g3 := by kernel_rfl

def g4 : GFn :=
 ⟨86, [⟨6, none⟩], .seq (.ops [.grp none [⟨some 6, none, .move (.const (.bool false)), []⟩]]) 
 (.seq (.ops [.grp none [⟨some 13, none, .move (.tmp 0), []⟩, ⟨some 14, none, .call 15 #[.tmp 13], []⟩, ⟨some 12, none, .move (.tmp 14), []⟩, ⟨some 15, none, .extract (.tmp 12) 0, []⟩, ⟨some 16, none, .extract (.tmp 12) 1, []⟩, ⟨some 17, none, .extract (.tmp 12) 2, []⟩, ⟨some 7, none, .move (.tmp 15), []⟩, ⟨some 8, none, .move (.tmp 16), []⟩, ⟨some 9, none, .move (.tmp 17), []⟩]]) 
 (.seq 
 (.seq (.ops [.grp none [⟨some 18, none, .move (.tmp 9), []⟩, ⟨some 19, none, .un .not (.tmp 18), []⟩, ⟨some 20, none, .move (.tmp 19), []⟩],
  .grp (some (some 20, false)) [⟨some 21, none, .call 8 #[], []⟩, ⟨some 22, none, .un .not (.tmp 21), []⟩],
  .grp none [⟨some 23, none, .pick (.tmp 20) (.const (.bool true)) (.tmp 22), []⟩]]) 
 (.cond (.tmp 23) 
 (.seq (.ops [.grp none [⟨some 6, none, .move (.const (.bool false)), []⟩]]) .ret) .skip)) 
 (.seq (.ops [.grp none [⟨some 24, none, .move (.tmp 8), []⟩, ⟨some 25, none, .move (.tmp 1), []⟩, ⟨some 26, none, .call 16 #[.tmp 24, .tmp 25], []⟩, ⟨some 10, none, .move (.tmp 26), []⟩]]) 
 (.seq (.ops [.grp none [⟨some 27, none, .move (.tmp 7), []⟩, ⟨some 28, none, .move (.tmp 1), []⟩, ⟨some 29, none, .move (.tmp 2), []⟩, ⟨some 30, none, .call 11 #[.tmp 27, .tmp 28, .tmp 29], []⟩, ⟨some 11, none, .move (.tmp 30), []⟩]]) 
 (.seq 
 (.seq (.ops [.grp none [⟨some 31, none, .move (.tmp 11), []⟩, ⟨some 32, none, .bin .neq 30 (.tmp 31) (.const (.int .i64 0)), []⟩]]) 
 (.cond (.tmp 32) 
 (.seq (.ops [.grp none [⟨some 33, none, .move (.tmp 10), []⟩, ⟨some 34, none, .move (.tmp 7), []⟩, ⟨some 35, none, .move (.tmp 1), []⟩, ⟨some 36, none, .call 14 #[.tmp 34, .tmp 35], []⟩, ⟨some 37, none, .call 17 #[.tmp 33, .tmp 36], []⟩, ⟨some 38, none, .move (.tmp 37), []⟩],
  .grp (some (some 38, true)) [⟨some 39, none, .move (.tmp 7), []⟩, ⟨some 40, none, .call 12 #[.tmp 39], []⟩, ⟨some 41, none, .move (.tmp 8), []⟩, ⟨some 42, none, .call 19 #[.tmp 41], []⟩, ⟨some 43, none, .call 18 #[.tmp 40, .tmp 42], []⟩],
  .grp none [⟨some 44, none, .pick (.tmp 38) (.tmp 43) (.const (.bool false)), []⟩, ⟨some 6, none, .move (.tmp 44), []⟩]]) .ret) .skip)) 
 (.seq 
 (.seq (.ops [.grp none [⟨some 45, none, .move (.tmp 1), []⟩, ⟨some 46, none, .move (.tmp 2), []⟩, ⟨some 47, none, .bin .eql 3 (.tmp 45) (.tmp 46), []⟩, ⟨some 48, none, .move (.tmp 47), []⟩],
  .grp (some (some 48, false)) [⟨some 49, none, .move (.tmp 10), []⟩, ⟨some 50, none, .len (.tmp 49), []⟩, ⟨some 51, none, .bin .eql 3 (.tmp 50) (.const (.int .i64 0)), []⟩],
  .grp none [⟨some 52, none, .pick (.tmp 48) (.const (.bool true)) (.tmp 51), []⟩, ⟨some 53, none, .move (.tmp 52), []⟩],
  .grp (some (some 53, false)) [⟨some 54, none, .move (.tmp 10), []⟩, ⟨some 55, none, .move (.tmp 7), []⟩, ⟨some 56, none, .move (.tmp 2), []⟩, ⟨some 57, none, .call 14 #[.tmp 55, .tmp 56], []⟩, ⟨some 58, none, .call 17 #[.tmp 54, .tmp 57], []⟩, ⟨some 59, none, .un .not (.tmp 58), []⟩],
  .grp none [⟨some 60, none, .pick (.tmp 53) (.const (.bool true)) (.tmp 59), []⟩, ⟨some 61, none, .move (.tmp 60), []⟩],
  .grp (some (some 61, false)) [⟨some 62, none, .move (.tmp 7), []⟩, ⟨some 63, none, .move (.tmp 1), []⟩, ⟨some 64, none, .call 13 #[.tmp 62, .tmp 63], []⟩, ⟨some 65, none, .bin .neq 3 (.tmp 64) (.const (.int .i64 0)), []⟩],
  .grp none [⟨some 66, none, .pick (.tmp 61) (.const (.bool true)) (.tmp 65), []⟩, ⟨some 67, none, .move (.tmp 66), []⟩],
  .grp (some (some 67, false)) [⟨some 68, none, .move (.tmp 7), []⟩, ⟨some 69, none, .move (.tmp 2), []⟩, ⟨some 70, none, .move (.tmp 1), []⟩, ⟨some 71, none, .call 11 #[.tmp 68, .tmp 69, .tmp 70], []⟩, ⟨some 72, none, .bin .neq 30 (.tmp 71) (.const (.int .i64 0)), []⟩],
  .grp none [⟨some 73, none, .pick (.tmp 67) (.const (.bool true)) (.tmp 72), []⟩]]) 
 (.cond (.tmp 73) 
 (.seq (.ops [.grp none [⟨some 6, none, .move (.const (.bool false)), []⟩]]) .ret) .skip)) 
 (.seq (.ops [.grp none [⟨some 74, none, .move (.tmp 10), []⟩, ⟨some 75, none, .move (.tmp 7), []⟩, ⟨some 76, none, .move (.tmp 1), []⟩, ⟨some 77, none, .call 14 #[.tmp 75, .tmp 76], []⟩, ⟨some 78, none, .call 17 #[.tmp 74, .tmp 77], []⟩, ⟨some 79, none, .move (.tmp 78), []⟩],
  .grp (some (some 79, true)) [⟨some 80, none, .move (.tmp 7), []⟩, ⟨some 81, none, .call 12 #[.tmp 80], []⟩, ⟨some 82, none, .move (.tmp 8), []⟩, ⟨some 83, none, .call 19 #[.tmp 82], []⟩, ⟨some 84, none, .call 18 #[.tmp 81, .tmp 83], []⟩],
  .grp none [⟨some 85, none, .pick (.tmp 79) (.tmp 84) (.const (.bool false)), []⟩, ⟨some 6, none, .move (.tmp 85), []⟩]]) .ret)))))))⟩
theorem low4 : lowG Try.prog 4 = some g4 := by kernel_rfl

def g5 : GFn :=
 ⟨50, [⟨6, none⟩], .seq (.ops [.grp none [⟨some 4, none, .box 29 (.tmp 1), []⟩, ⟨some 6, none, .move (.const (.bool false)), []⟩]]) 
 (.seq (.ops [.grp none [⟨some 12, none, .move (.tmp 0), []⟩, ⟨some 13, none, .call 15 #[.tmp 12], []⟩, ⟨some 11, none, .move (.tmp 13), []⟩, ⟨some 14, none, .extract (.tmp 11) 0, []⟩, ⟨some 15, none, .extract (.tmp 11) 1, []⟩, ⟨some 16, none, .extract (.tmp 11) 2, []⟩, ⟨some 7, none, .move (.tmp 14), []⟩, ⟨some 8, none, .move (.tmp 15), []⟩, ⟨some 9, none, .move (.tmp 16), []⟩]]) 
 (.seq 
 (.seq (.ops [.grp none [⟨some 17, none, .move (.tmp 9), []⟩, ⟨some 18, none, .un .not (.tmp 17), []⟩, ⟨some 19, none, .move (.tmp 18), []⟩],
  .grp (some (some 19, false)) [⟨some 20, none, .call 8 #[], []⟩, ⟨some 21, none, .un .not (.tmp 20), []⟩],
  .grp none [⟨some 22, none, .pick (.tmp 19) (.const (.bool true)) (.tmp 21), []⟩]]) 
 (.cond (.tmp 22) 
 (.seq (.ops [.grp none [⟨some 6, none, .move (.const (.bool false)), []⟩]]) .ret) .skip)) 
 (.seq 
 (.seq (.ops [.grp none [⟨some 23, none, .move (.tmp 2), []⟩, ⟨some 24, none, .faddr 1 (.tmp 4), []⟩, ⟨some 25, none, .load none (.tmp 24), []⟩, ⟨some 26, none, .bin .eql 3 (.tmp 23) (.tmp 25), []⟩, ⟨some 27, none, .move (.tmp 26), []⟩],
  .grp (some (some 27, false)) [⟨some 28, none, .move (.tmp 2), []⟩, ⟨some 29, none, .faddr 2 (.tmp 4), []⟩, ⟨some 30, none, .load none (.tmp 29), []⟩, ⟨some 31, none, .bin .eql 3 (.tmp 28) (.tmp 30), []⟩],
  .grp none [⟨some 32, none, .pick (.tmp 27) (.const (.bool true)) (.tmp 31), []⟩]]) 
 (.cond (.tmp 32) 
 (.seq (.ops [.grp none [⟨some 6, none, .move (.const (.bool true)), []⟩]]) .ret) .skip)) 
 (.seq (.ops [.grp none [⟨some 33, none, .move (.tmp 7), []⟩, ⟨some 34, none, .move (.tmp 8), []⟩, ⟨some 35, none, .load (some 5) (.tmp 4), []⟩, ⟨some 36, none, .call 20 #[.tmp 33, .tmp 34, .tmp 35], []⟩]]) 
 (.seq (.ops [.grp none [⟨some 37, none, .move (.tmp 0), []⟩, ⟨some 38, none, .call 21 #[.tmp 37], []⟩, ⟨some 10, none, .move (.tmp 38), []⟩]]) 
 (.seq (.ops [.grp none [⟨some 39, none, .move (.tmp 10), []⟩, ⟨some 40, none, .bin .neq 39 (.tmp 39) (.const (.pointer none)), []⟩, ⟨some 41, none, .move (.tmp 40), []⟩],
  .grp (some (some 41, true)) [⟨some 42, none, .move (.tmp 7), []⟩, ⟨some 43, none, .move (.tmp 2), []⟩, ⟨some 44, none, .call 14 #[.tmp 42, .tmp 43], []⟩, ⟨some 45, none, .move (.tmp 10), []⟩, ⟨some 46, none, .move (.tmp 2), []⟩, ⟨some 47, none, .call 16 #[.tmp 45, .tmp 46], []⟩, ⟨some 48, none, .call 17 #[.tmp 44, .tmp 47], []⟩],
  .grp none [⟨some 49, none, .pick (.tmp 41) (.tmp 48) (.const (.bool false)), []⟩, ⟨some 6, none, .move (.tmp 49), []⟩]]) .ret))))))⟩
theorem low5 : lowG Try.prog 5 = some g5 := by kernel_rfl

def g7 : GFn :=
 ⟨4, [⟨0, none⟩], .seq (.ops [.grp none [⟨some 0, none, .move (.const (.pointer none)), []⟩]]) 
 (.seq (.ops [.grp none [⟨some 1, none, .makeMap, []⟩, ⟨some 2, none, .build #[(0, 1)] #[.map none] [(0, .tmp 1)], []⟩, ⟨some 3, none, .box 51 (.tmp 2), []⟩, ⟨some 0, none, .move (.tmp 3), []⟩]]) .ret)⟩
theorem low7 : lowG Try.prog 7 = some g7 := by kernel_rfl

def g9 : GFn :=
 ⟨58, [⟨6, none⟩], .seq (.ops [.grp none [⟨some 5, none, .box 27 (.tmp 2), []⟩, ⟨some 6, none, .move (.const (.int .i64 0)), []⟩]]) 
 (.seq 
 (.block 0 
 (.seq (.ops [.grp none [⟨some 11, none, .move (.tmp 0), []⟩, ⟨some 12, none, .bin .eql 23 (.tmp 11) (.const (.pointer none)), []⟩, ⟨some 10, none, .move (.tmp 12), []⟩]]) 
 (.cond (.tmp 10) 
 (.seq (.ops [.grp none [⟨some 6, none, .move (.const (.int .i64 1)), []⟩]]) .ret) 
 (.seq (.ops [.grp none [⟨some 14, none, .move (.tmp 1), []⟩, ⟨some 15, none, .bin .lss 3 (.tmp 14) (.const (.int .i64 0)), []⟩, ⟨some 16, none, .move (.tmp 15), []⟩],
  .grp (some (some 16, false)) [⟨some 17, none, .move (.tmp 1), []⟩, ⟨some 18, none, .bin .geq 3 (.tmp 17) (.const (.int .i64 1024)), []⟩],
  .grp none [⟨some 19, none, .pick (.tmp 16) (.const (.bool true)) (.tmp 18), []⟩, ⟨some 20, none, .move (.tmp 19), []⟩],
  .grp (some (some 20, false)) [⟨some 21, none, .faddr 0 (.tmp 5), []⟩, ⟨some 22, none, .load none (.tmp 21), []⟩, ⟨some 23, none, .bin .lss 3 (.tmp 22) (.const (.int .i64 0)), []⟩],
  .grp none [⟨some 24, none, .pick (.tmp 20) (.const (.bool true)) (.tmp 23), []⟩, ⟨some 25, none, .move (.tmp 24), []⟩],
  .grp (some (some 25, false)) [⟨some 26, none, .faddr 1 (.tmp 5), []⟩, ⟨some 27, none, .load none (.tmp 26), []⟩, ⟨some 28, none, .bin .lss 3 (.tmp 27) (.const (.int .i64 0)), []⟩],
  .grp none [⟨some 29, none, .pick (.tmp 25) (.const (.bool true)) (.tmp 28), []⟩, ⟨some 30, none, .move (.tmp 29), []⟩],
  .grp (some (some 30, false)) [⟨some 31, none, .faddr 1 (.tmp 5), []⟩, ⟨some 32, none, .load none (.tmp 31), []⟩, ⟨some 33, none, .bin .geq 3 (.tmp 32) (.const (.int .i64 4096)), []⟩],
  .grp none [⟨some 34, none, .pick (.tmp 30) (.const (.bool true)) (.tmp 33), []⟩, ⟨some 13, none, .move (.tmp 34), []⟩]]) 
 (.cond (.tmp 13) 
 (.seq (.ops [.grp none [⟨some 6, none, .move (.const (.int .i64 3)), []⟩]]) .ret) .skip))))) 
 (.seq (.ops [.grp none [⟨some 35, none, .move (.tmp 0), []⟩, ⟨some 36, none, .nonnil (.tmp 35), []⟩, ⟨some 37, none, .faddr 0 (.tmp 36), []⟩, ⟨some 38, none, .load none (.tmp 37), []⟩, ⟨some 39, none, .move (.tmp 1), []⟩, ⟨some 40, none, .lookup .i64 (.slice none 0 0) (.tmp 38) (.tmp 39) false, []⟩, ⟨some 7, none, .move (.tmp 40), []⟩]]) 
 (.seq (.ops [.grp none [⟨some 42, none, .move (.tmp 7), []⟩, ⟨some 43, none, .load (some 2) (.tmp 5), []⟩, ⟨some 44, none, .call 22 #[.tmp 42, .tmp 43, .func 23], []⟩, ⟨some 41, none, .move (.tmp 44), []⟩, ⟨some 45, none, .extract (.tmp 41) 0, []⟩, ⟨some 46, none, .extract (.tmp 41) 1, []⟩, ⟨some 8, none, .move (.tmp 45), []⟩, ⟨some 9, none, .move (.tmp 46), []⟩]]) 
 (.seq 
 (.seq (.ops [.grp none [⟨some 47, none, .move (.tmp 9), []⟩]]) 
 (.cond (.tmp 47) 
 (.seq (.ops [.grp none [⟨some 6, none, .move (.const (.int .i64 7)), []⟩]]) .ret) .skip)) 
 (.seq (.ops [.grp none [⟨some 48, none, .move (.tmp 0), []⟩, ⟨some 49, none, .nonnil (.tmp 48), []⟩, ⟨some 50, none, .faddr 0 (.tmp 49), []⟩, ⟨some 51, none, .load none (.tmp 50), []⟩, ⟨some 52, none, .move (.tmp 1), []⟩, ⟨some 53, none, .move (.tmp 7), []⟩, ⟨some 54, none, .move (.tmp 8), []⟩, ⟨some 55, none, .load (some 2) (.tmp 5), []⟩, ⟨some 56, none, .row 27 2 1 #[.int .i64 0, .int .i64 0] [(0, .tmp 55)], [⟨some 51, none, .load none (.tmp 50)⟩]⟩, ⟨some 57, none, .call 24 #[.tmp 53, .tmp 54, .tmp 56], [⟨some 51, none, .load none (.tmp 50)⟩]⟩, ⟨none, none, .update .i64 (.tmp 51) (.tmp 52) (.tmp 57), []⟩]]) 
 (.seq (.ops [.grp none [⟨some 6, none, .move (.const (.int .i64 0)), []⟩]]) .ret))))))⟩
theorem low9 : lowG Try.prog 9 = some g9 := by kernel_rfl

def g10 : GFn :=
 ⟨44, [⟨6, none⟩], .seq (.ops [.grp none [⟨some 5, none, .box 27 (.tmp 2), []⟩, ⟨some 6, none, .move (.const (.int .i64 0)), []⟩]]) 
 (.seq 
 (.seq (.ops [.grp none [⟨some 10, none, .move (.tmp 0), []⟩, ⟨some 11, none, .bin .eql 23 (.tmp 10) (.const (.pointer none)), []⟩]]) 
 (.cond (.tmp 11) 
 (.seq (.ops [.grp none [⟨some 6, none, .move (.const (.int .i64 1)), []⟩]]) .ret) .skip)) 
 (.seq (.ops [.grp none [⟨some 12, none, .move (.tmp 0), []⟩, ⟨some 13, none, .nonnil (.tmp 12), []⟩, ⟨some 14, none, .faddr 0 (.tmp 13), []⟩, ⟨some 15, none, .load none (.tmp 14), []⟩, ⟨some 16, none, .move (.tmp 1), []⟩, ⟨some 17, none, .lookup .i64 (.slice none 0 0) (.tmp 15) (.tmp 16) false, []⟩, ⟨some 7, none, .move (.tmp 17), []⟩]]) 
 (.seq (.ops [.grp none [⟨some 19, none, .move (.tmp 7), []⟩, ⟨some 20, none, .load (some 2) (.tmp 5), []⟩, ⟨some 21, none, .call 22 #[.tmp 19, .tmp 20, .func 23], []⟩, ⟨some 18, none, .move (.tmp 21), []⟩, ⟨some 22, none, .extract (.tmp 18) 0, []⟩, ⟨some 23, none, .extract (.tmp 18) 1, []⟩, ⟨some 8, none, .move (.tmp 22), []⟩, ⟨some 9, none, .move (.tmp 23), []⟩]]) 
 (.seq 
 (.seq (.ops [.grp none [⟨some 24, none, .move (.tmp 9), []⟩, ⟨some 25, none, .un .not (.tmp 24), []⟩]]) 
 (.cond (.tmp 25) 
 (.seq (.ops [.grp none [⟨some 6, none, .move (.const (.int .i64 6)), []⟩]]) .ret) .skip)) 
 (.seq 
 (.seq (.ops [.grp none [⟨some 26, none, .move (.tmp 7), []⟩, ⟨some 27, none, .len (.tmp 26), []⟩, ⟨some 28, none, .bin .eql 3 (.tmp 27) (.const (.int .i64 1)), []⟩]]) 
 (.cond (.tmp 28) (.ops [.grp none [⟨some 29, none, .move (.tmp 0), []⟩, ⟨some 30, none, .nonnil (.tmp 29), []⟩, ⟨some 31, none, .faddr 0 (.tmp 30), []⟩, ⟨some 32, none, .load none (.tmp 31), []⟩, ⟨some 33, none, .move (.tmp 1), []⟩, ⟨none, none, .delete .i64 (.tmp 32) (.tmp 33), []⟩]]) (.ops [.grp none [⟨some 34, none, .move (.tmp 0), []⟩, ⟨some 35, none, .nonnil (.tmp 34), []⟩, ⟨some 36, none, .faddr 0 (.tmp 35), []⟩, ⟨some 37, none, .load none (.tmp 36), []⟩, ⟨some 38, none, .move (.tmp 1), []⟩, ⟨some 39, none, .move (.tmp 7), []⟩, ⟨some 40, none, .move (.tmp 8), []⟩, ⟨some 41, none, .move (.tmp 8), []⟩, ⟨some 42, none, .bin .add 3 (.tmp 41) (.const (.int .i64 1)), []⟩, ⟨some 43, none, .call 25 #[.tmp 39, .tmp 40, .tmp 42], [⟨some 37, none, .load none (.tmp 36)⟩]⟩, ⟨none, none, .update .i64 (.tmp 37) (.tmp 38) (.tmp 43), []⟩]]))) 
 (.seq (.ops [.grp none [⟨some 6, none, .move (.const (.int .i64 0)), []⟩]]) .ret))))))⟩
theorem low10 : lowG Try.prog 10 = some g10 := by kernel_rfl

def g11 : GFn :=
 ⟨51, [⟨6, none⟩], .seq (.ops [.grp none [⟨some 6, none, .move (.const (.int .i64 0)), []⟩]]) 
 (.seq 
 (.block 0 
 (.seq (.ops [.grp none [⟨some 8, none, .move (.tmp 0), []⟩, ⟨some 9, none, .bin .eql 23 (.tmp 8) (.const (.pointer none)), []⟩, ⟨some 7, none, .move (.tmp 9), []⟩]]) 
 (.cond (.tmp 7) 
 (.seq (.ops [.grp none [⟨some 6, none, .move (.const (.int .i64 1)), []⟩]]) .ret) 
 (.seq (.ops [.grp none [⟨some 11, none, .move (.tmp 2), []⟩, ⟨some 12, none, .bin .lss 3 (.tmp 11) (.const (.int .i64 0)), []⟩, ⟨some 13, none, .move (.tmp 12), []⟩],
  .grp (some (some 13, false)) [⟨some 14, none, .move (.tmp 2), []⟩, ⟨some 15, none, .bin .geq 3 (.tmp 14) (.const (.int .i64 1024)), []⟩],
  .grp none [⟨some 16, none, .pick (.tmp 13) (.const (.bool true)) (.tmp 15), []⟩, ⟨some 10, none, .move (.tmp 16), []⟩]]) 
 (.cond (.tmp 10) 
 (.seq (.ops [.grp none [⟨some 6, none, .move (.const (.int .i64 3)), []⟩]]) .ret) 
 (.seq (.ops [.grp none [⟨some 18, none, .move (.tmp 0), []⟩, ⟨some 19, none, .nonnil (.tmp 18), []⟩, ⟨some 20, none, .faddr 0 (.tmp 19), []⟩, ⟨some 21, none, .load none (.tmp 20), []⟩, ⟨some 22, none, .move (.tmp 1), []⟩, ⟨some 23, none, .lookup .i64 (.slice none 0 0) (.tmp 21) (.tmp 22) false, []⟩, ⟨some 24, none, .len (.tmp 23), []⟩, ⟨some 25, none, .bin .eql 3 (.tmp 24) (.const (.int .i64 0)), []⟩, ⟨some 17, none, .move (.tmp 25), []⟩]]) 
 (.cond (.tmp 17) 
 (.seq (.ops [.grp none [⟨some 6, none, .move (.const (.int .i64 6)), []⟩]]) .ret) 
 (.seq (.ops [.grp none [⟨some 27, none, .move (.tmp 0), []⟩, ⟨some 28, none, .nonnil (.tmp 27), []⟩, ⟨some 29, none, .faddr 0 (.tmp 28), []⟩, ⟨some 30, none, .load none (.tmp 29), []⟩, ⟨some 31, none, .move (.tmp 2), []⟩, ⟨some 32, none, .lookup .i64 (.slice none 0 0) (.tmp 30) (.tmp 31) false, []⟩, ⟨some 33, none, .len (.tmp 32), []⟩, ⟨some 34, none, .bin .gtr 3 (.tmp 33) (.const (.int .i64 0)), []⟩, ⟨some 26, none, .move (.tmp 34), []⟩]]) 
 (.cond (.tmp 26) 
 (.seq (.ops [.grp none [⟨some 6, none, .move (.const (.int .i64 7)), []⟩]]) .ret) .skip))))))))) 
 (.seq (.ops [.grp none [⟨some 35, none, .move (.tmp 0), []⟩, ⟨some 36, none, .nonnil (.tmp 35), []⟩, ⟨some 37, none, .faddr 0 (.tmp 36), []⟩, ⟨some 38, none, .load none (.tmp 37), []⟩, ⟨some 39, none, .move (.tmp 2), []⟩, ⟨some 40, none, .move (.tmp 0), []⟩, ⟨some 41, none, .nonnil (.tmp 40), []⟩, ⟨some 42, none, .faddr 0 (.tmp 41), []⟩, ⟨some 43, none, .load none (.tmp 42), []⟩, ⟨some 44, none, .move (.tmp 1), []⟩, ⟨some 45, none, .lookup .i64 (.slice none 0 0) (.tmp 43) (.tmp 44) false, []⟩, ⟨none, none, .update .i64 (.tmp 38) (.tmp 39) (.tmp 45), []⟩]]) 
 (.seq (.ops [.grp none [⟨some 46, none, .move (.tmp 0), []⟩, ⟨some 47, none, .nonnil (.tmp 46), []⟩, ⟨some 48, none, .faddr 0 (.tmp 47), []⟩, ⟨some 49, none, .load none (.tmp 48), []⟩, ⟨some 50, none, .move (.tmp 1), []⟩, ⟨none, none, .delete .i64 (.tmp 49) (.tmp 50), []⟩]]) 
 (.seq (.ops [.grp none [⟨some 6, none, .move (.const (.int .i64 0)), []⟩]]) .ret))))⟩
theorem low11 : lowG Try.prog 11 = some g11 := by kernel_rfl

def g12 : GFn :=
 ⟨24, [⟨2, none⟩], .seq (.ops [.grp none [⟨some 2, none, .move (.const (.slice none 0 0)), []⟩]]) 
 (.seq (.ops [.grp none [⟨some 3, none, .move (.const (.slice none 0 0)), []⟩]]) 
 (.seq 
 (.seq (.ops [.grp none [⟨some 5, none, .move (.tmp 0), []⟩, ⟨some 6, none, .bin .eql 23 (.tmp 5) (.const (.pointer none)), []⟩]]) 
 (.cond (.tmp 6) 
 (.seq (.ops [.grp none [⟨some 7, none, .move (.tmp 3), []⟩, ⟨some 2, none, .move (.tmp 7), []⟩]]) .ret) .skip)) 
 (.seq 
 (.seq (.ops [.grp none [⟨some 8, none, .move (.tmp 0), []⟩, ⟨some 9, none, .nonnil (.tmp 8), []⟩, ⟨some 10, none, .faddr 0 (.tmp 9), []⟩, ⟨some 11, none, .load none (.tmp 10), []⟩, ⟨some 12, none, .raw (Op.range 49 (.tmp 11)) 0, []⟩]]) 
 (.block 0 
 (.loop 
 (.seq (.ops [.grp none [⟨some 13, none, .raw (Op.next (.tmp 12) false) 0, []⟩, ⟨some 14, none, .extract (.tmp 13) 0, []⟩]]) 
 (.seq 
 (.cond (.tmp 14) .skip (.exit 0)) 
 (.block 1 
 (.seq (.ops [.grp none [⟨some 15, none, .raw (Op.entry (.tmp 12)) 0, []⟩, ⟨some 16, none, .extract (.tmp 15) 0, []⟩, ⟨some 4, none, .move (.tmp 16), []⟩]]) (.ops [.grp none [⟨some 17, none, .move (.tmp 3), []⟩, ⟨some 18, none, .move (.tmp 4), []⟩, ⟨some 19, none, .row 3 1 1 #[.int .i64 0] [(0, .tmp 18)], []⟩, ⟨some 20, none, .append 3 1 8 (.tmp 17) (.tmp 19), []⟩, ⟨some 3, none, .move (.tmp 20), []⟩]])))))))) 
 (.seq (.ops [.grp none [⟨some 21, none, .move (.tmp 3), []⟩, ⟨some 22, none, .call 26 #[.tmp 21], []⟩]]) 
 (.seq (.ops [.grp none [⟨some 23, none, .move (.tmp 3), []⟩, ⟨some 2, none, .move (.tmp 23), []⟩]]) .ret)))))⟩
theorem low12 : lowG Try.prog 12 = some g12 := by kernel_rfl

def g13 : GFn :=
 ⟨14, [⟨4, none⟩], .seq (.ops [.grp none [⟨some 4, none, .move (.const (.int .i64 0)), []⟩]]) 
 (.seq 
 (.seq (.ops [.grp none [⟨some 5, none, .move (.tmp 0), []⟩, ⟨some 6, none, .bin .eql 23 (.tmp 5) (.const (.pointer none)), []⟩]]) 
 (.cond (.tmp 6) 
 (.seq (.ops [.grp none [⟨some 4, none, .move (.const (.int .i64 0)), []⟩]]) .ret) .skip)) 
 (.seq (.ops [.grp none [⟨some 7, none, .move (.tmp 0), []⟩, ⟨some 8, none, .nonnil (.tmp 7), []⟩, ⟨some 9, none, .faddr 0 (.tmp 8), []⟩, ⟨some 10, none, .load none (.tmp 9), []⟩, ⟨some 11, none, .move (.tmp 1), []⟩, ⟨some 12, none, .lookup .i64 (.slice none 0 0) (.tmp 10) (.tmp 11) false, []⟩, ⟨some 13, none, .len (.tmp 12), []⟩, ⟨some 4, none, .move (.tmp 13), []⟩]]) .ret))⟩
theorem low13 : lowG Try.prog 13 = some g13 := by kernel_rfl

def g14 : GFn :=
 ⟨15, [⟨4, none⟩], .seq (.ops [.grp none [⟨some 4, none, .move (.const (.slice none 0 0)), []⟩]]) 
 (.seq 
 (.seq (.ops [.grp none [⟨some 5, none, .move (.tmp 0), []⟩, ⟨some 6, none, .bin .eql 23 (.tmp 5) (.const (.pointer none)), []⟩]]) 
 (.cond (.tmp 6) 
 (.seq (.ops [.grp none [⟨some 4, none, .move (.const (.slice none 0 0)), []⟩]]) .ret) .skip)) 
 (.seq (.ops [.grp none [⟨some 7, none, .row 27 2 0 #[] [], []⟩, ⟨some 8, none, .move (.tmp 0), []⟩, ⟨some 9, none, .nonnil (.tmp 8), []⟩, ⟨some 10, none, .faddr 0 (.tmp 9), []⟩, ⟨some 11, none, .load none (.tmp 10), []⟩, ⟨some 12, none, .move (.tmp 1), []⟩, ⟨some 13, none, .lookup .i64 (.slice none 0 0) (.tmp 11) (.tmp 12) false, []⟩, ⟨some 14, none, .append 27 2 16 (.tmp 7) (.tmp 13), []⟩, ⟨some 4, none, .move (.tmp 14), []⟩]]) .ret))⟩
theorem low14 : lowG Try.prog 14 = some g14 := by kernel_rfl

def g15 : GFn :=
 ⟨33, [⟨2, none⟩, ⟨3, none⟩, ⟨4, none⟩], .seq (.ops [.grp none [⟨some 2, none, .move (.const (.pointer none)), []⟩, ⟨some 3, none, .move (.const (.pointer none)), []⟩, ⟨some 4, none, .move (.const (.bool false)), []⟩]]) 
 (.seq (.ops [.grp none [⟨some 8, none, .call 7 #[], []⟩, ⟨some 9, none, .build #[(0, 1)] #[.slice none 0 0] [], []⟩, ⟨some 10, none, .box 60 (.tmp 9), []⟩, ⟨some 5, none, .move (.tmp 8), []⟩, ⟨some 6, none, .move (.tmp 10), []⟩]]) 
 (.seq 
 (.seq (.ops [.grp none [⟨some 11, none, .move (.tmp 5), []⟩, ⟨some 12, none, .bin .eql 23 (.tmp 11) (.const (.pointer none)), []⟩]]) 
 (.cond (.tmp 12) 
 (.seq (.ops [.grp none [⟨some 2, none, .move (.const (.pointer none)), []⟩, ⟨some 3, none, .move (.const (.pointer none)), []⟩, ⟨some 4, none, .move (.const (.bool false)), []⟩]]) .ret) .skip)) 
 (.seq 
 (.seq (.ops [.grp none [⟨some 7, none, .move (.const (.int .i64 0)), []⟩]]) 
 (.block 0 
 (.loop 
 (.seq 
 (.seq (.ops [.grp none [⟨some 13, none, .move (.tmp 7), []⟩, ⟨some 14, none, .move (.tmp 0), []⟩, ⟨some 15, none, .len (.tmp 14), []⟩, ⟨some 16, none, .bin .lss 3 (.tmp 13) (.tmp 15), []⟩, ⟨some 17, none, .move (.tmp 16), []⟩],
  .grp (some (some 17, true)) [⟨some 18, none, .move (.tmp 7), []⟩, ⟨some 19, none, .bin .lss 3 (.tmp 18) (.const (.int .i64 80)), []⟩],
  .grp none [⟨some 20, none, .pick (.tmp 17) (.tmp 19) (.const (.bool false)), []⟩]]) 
 (.cond (.tmp 20) .skip (.exit 0))) 
 (.seq 
 (.block 1 
 (.seq (.ops [.grp none [⟨some 23, none, .move (.tmp 5), []⟩, ⟨some 24, none, .move (.tmp 6), []⟩, ⟨some 25, none, .move (.tmp 0), []⟩, ⟨some 26, none, .move (.tmp 7), []⟩, ⟨some 27, none, .iaddr 5 (.tmp 25) (.tmp 26), []⟩, ⟨some 28, none, .load (some 5) (.tmp 27), []⟩, ⟨some 29, none, .call 20 #[.tmp 23, .tmp 24, .tmp 28], []⟩, ⟨some 30, none, .un .not (.tmp 29), []⟩]]) 
 (.cond (.tmp 30) 
 (.seq (.ops [.grp none [⟨some 2, none, .move (.const (.pointer none)), []⟩, ⟨some 3, none, .move (.const (.pointer none)), []⟩, ⟨some 4, none, .move (.const (.bool false)), []⟩]]) .ret) .skip))) (.ops [.grp none [⟨some 21, none, .move (.tmp 7), []⟩, ⟨some 22, none, .bin .add 3 (.tmp 21) (.const (.int .i64 1)), []⟩, ⟨some 7, none, .move (.tmp 22), []⟩]])))))) 
 (.seq (.ops [.grp none [⟨some 31, none, .move (.tmp 5), []⟩, ⟨some 32, none, .move (.tmp 6), []⟩, ⟨some 2, none, .move (.tmp 31), []⟩, ⟨some 3, none, .move (.tmp 32), []⟩, ⟨some 4, none, .move (.const (.bool true)), []⟩]]) .ret))))⟩
theorem low15 : lowG Try.prog 15 = some g15 := by kernel_rfl

def g16 : GFn :=
 ⟨38, [⟨4, none⟩], .seq (.ops [.grp none [⟨some 4, none, .move (.const (.slice none 0 0)), []⟩]]) 
 (.seq (.ops [.grp none [⟨some 5, none, .move (.const (.slice none 0 0)), []⟩]]) 
 (.seq 
 (.seq (.ops [.grp none [⟨some 6, none, .move (.const (.int .i64 0)), []⟩]]) 
 (.block 0 
 (.loop 
 (.seq 
 (.seq (.ops [.grp none [⟨some 7, none, .move (.tmp 6), []⟩, ⟨some 8, none, .move (.tmp 0), []⟩, ⟨some 9, none, .nonnil (.tmp 8), []⟩, ⟨some 10, none, .faddr 0 (.tmp 9), []⟩, ⟨some 11, none, .load none (.tmp 10), []⟩, ⟨some 12, none, .len (.tmp 11), []⟩, ⟨some 13, none, .bin .lss 3 (.tmp 7) (.tmp 12), []⟩]]) 
 (.cond (.tmp 13) .skip (.exit 0))) 
 (.seq 
 (.block 1 
 (.seq (.ops [.grp none [⟨some 16, none, .move (.tmp 0), []⟩, ⟨some 17, none, .nonnil (.tmp 16), []⟩, ⟨some 18, none, .faddr 0 (.tmp 17), []⟩, ⟨some 19, none, .load none (.tmp 18), []⟩, ⟨some 20, none, .move (.tmp 6), []⟩, ⟨some 21, none, .iaddr 3 (.tmp 19) (.tmp 20), []⟩, ⟨some 22, none, .faddr 0 (.tmp 21), []⟩, ⟨some 23, none, .load none (.tmp 22), []⟩, ⟨some 24, none, .move (.tmp 1), []⟩, ⟨some 25, none, .bin .eql 3 (.tmp 23) (.tmp 24), []⟩]]) 
 (.cond (.tmp 25) (.ops [.grp none [⟨some 26, none, .move (.tmp 5), []⟩, ⟨some 27, none, .move (.tmp 0), []⟩, ⟨some 28, none, .nonnil (.tmp 27), []⟩, ⟨some 29, none, .faddr 0 (.tmp 28), []⟩, ⟨some 30, none, .load none (.tmp 29), []⟩, ⟨some 31, none, .move (.tmp 6), []⟩, ⟨some 32, none, .iaddr 3 (.tmp 30) (.tmp 31), []⟩, ⟨some 33, none, .faddr 1 (.tmp 32), []⟩, ⟨some 34, none, .load (some 2) (.tmp 33), []⟩, ⟨some 35, none, .row 27 2 1 #[.int .i64 0, .int .i64 0] [(0, .tmp 34)], []⟩, ⟨some 36, none, .append 27 2 16 (.tmp 26) (.tmp 35), []⟩, ⟨some 5, none, .move (.tmp 36), []⟩]]) .skip))) (.ops [.grp none [⟨some 14, none, .move (.tmp 6), []⟩, ⟨some 15, none, .bin .add 3 (.tmp 14) (.const (.int .i64 1)), []⟩, ⟨some 6, none, .move (.tmp 15), []⟩]])))))) 
 (.seq (.ops [.grp none [⟨some 37, none, .move (.tmp 5), []⟩, ⟨some 4, none, .move (.tmp 37), []⟩]]) .ret)))⟩
theorem low16 : lowG Try.prog 16 = some g16 := by kernel_rfl

def g17 : GFn :=
 ⟨26, [⟨4, none⟩], .seq (.ops [.grp none [⟨some 4, none, .move (.const (.bool false)), []⟩]]) 
 (.seq 
 (.seq (.ops [.grp none [⟨some 6, none, .move (.tmp 0), []⟩, ⟨some 7, none, .len (.tmp 6), []⟩, ⟨some 8, none, .move (.tmp 1), []⟩, ⟨some 9, none, .len (.tmp 8), []⟩, ⟨some 10, none, .bin .neq 3 (.tmp 7) (.tmp 9), []⟩]]) 
 (.cond (.tmp 10) 
 (.seq (.ops [.grp none [⟨some 4, none, .move (.const (.bool false)), []⟩]]) .ret) .skip)) 
 (.seq 
 (.seq (.ops [.grp none [⟨some 5, none, .move (.const (.int .i64 0)), []⟩]]) 
 (.block 0 
 (.loop 
 (.seq 
 (.seq (.ops [.grp none [⟨some 11, none, .move (.tmp 5), []⟩, ⟨some 12, none, .move (.tmp 0), []⟩, ⟨some 13, none, .len (.tmp 12), []⟩, ⟨some 14, none, .bin .lss 3 (.tmp 11) (.tmp 13), []⟩]]) 
 (.cond (.tmp 14) .skip (.exit 0))) 
 (.seq 
 (.block 1 
 (.seq (.ops [.grp none [⟨some 17, none, .move (.tmp 0), []⟩, ⟨some 18, none, .move (.tmp 5), []⟩, ⟨some 19, none, .iaddr 2 (.tmp 17) (.tmp 18), []⟩, ⟨some 20, none, .load (some 2) (.tmp 19), []⟩, ⟨some 21, none, .move (.tmp 1), []⟩, ⟨some 22, none, .move (.tmp 5), []⟩, ⟨some 23, none, .iaddr 2 (.tmp 21) (.tmp 22), []⟩, ⟨some 24, none, .load (some 2) (.tmp 23), []⟩, ⟨some 25, none, .bin .neq 27 (.tmp 20) (.tmp 24), []⟩]]) 
 (.cond (.tmp 25) 
 (.seq (.ops [.grp none [⟨some 4, none, .move (.const (.bool false)), []⟩]]) .ret) .skip))) (.ops [.grp none [⟨some 15, none, .move (.tmp 5), []⟩, ⟨some 16, none, .bin .add 3 (.tmp 15) (.const (.int .i64 1)), []⟩, ⟨some 5, none, .move (.tmp 16), []⟩]])))))) 
 (.seq (.ops [.grp none [⟨some 4, none, .move (.const (.bool true)), []⟩]]) .ret)))⟩
theorem low17 : lowG Try.prog 17 = some g17 := by kernel_rfl

def g18 : GFn :=
 ⟨26, [⟨4, none⟩], .seq (.ops [.grp none [⟨some 4, none, .move (.const (.bool false)), []⟩]]) 
 (.seq 
 (.seq (.ops [.grp none [⟨some 6, none, .move (.tmp 0), []⟩, ⟨some 7, none, .len (.tmp 6), []⟩, ⟨some 8, none, .move (.tmp 1), []⟩, ⟨some 9, none, .len (.tmp 8), []⟩, ⟨some 10, none, .bin .neq 3 (.tmp 7) (.tmp 9), []⟩]]) 
 (.cond (.tmp 10) 
 (.seq (.ops [.grp none [⟨some 4, none, .move (.const (.bool false)), []⟩]]) .ret) .skip)) 
 (.seq 
 (.seq (.ops [.grp none [⟨some 5, none, .move (.const (.int .i64 0)), []⟩]]) 
 (.block 0 
 (.loop 
 (.seq 
 (.seq (.ops [.grp none [⟨some 11, none, .move (.tmp 5), []⟩, ⟨some 12, none, .move (.tmp 0), []⟩, ⟨some 13, none, .len (.tmp 12), []⟩, ⟨some 14, none, .bin .lss 3 (.tmp 11) (.tmp 13), []⟩]]) 
 (.cond (.tmp 14) .skip (.exit 0))) 
 (.seq 
 (.block 1 
 (.seq (.ops [.grp none [⟨some 17, none, .move (.tmp 0), []⟩, ⟨some 18, none, .move (.tmp 5), []⟩, ⟨some 19, none, .iaddr 1 (.tmp 17) (.tmp 18), []⟩, ⟨some 20, none, .load none (.tmp 19), []⟩, ⟨some 21, none, .move (.tmp 1), []⟩, ⟨some 22, none, .move (.tmp 5), []⟩, ⟨some 23, none, .iaddr 1 (.tmp 21) (.tmp 22), []⟩, ⟨some 24, none, .load none (.tmp 23), []⟩, ⟨some 25, none, .bin .neq 3 (.tmp 20) (.tmp 24), []⟩]]) 
 (.cond (.tmp 25) 
 (.seq (.ops [.grp none [⟨some 4, none, .move (.const (.bool false)), []⟩]]) .ret) .skip))) (.ops [.grp none [⟨some 15, none, .move (.tmp 5), []⟩, ⟨some 16, none, .bin .add 3 (.tmp 15) (.const (.int .i64 1)), []⟩, ⟨some 5, none, .move (.tmp 16), []⟩]])))))) 
 (.seq (.ops [.grp none [⟨some 4, none, .move (.const (.bool true)), []⟩]]) .ret)))⟩
theorem low18 : lowG Try.prog 18 = some g18 := by kernel_rfl

def g19 : GFn :=
 ⟨48, [⟨2, none⟩], .seq (.ops [.grp none [⟨some 2, none, .move (.const (.slice none 0 0)), []⟩]]) 
 (.seq (.ops [.grp none [⟨some 3, none, .move (.const (.slice none 0 0)), []⟩]]) 
 (.seq 
 (.seq (.ops [.grp none [⟨some 4, none, .move (.const (.int .i64 0)), []⟩]]) 
 (.block 0 
 (.loop 
 (.seq 
 (.seq (.ops [.grp none [⟨some 5, none, .move (.tmp 4), []⟩, ⟨some 6, none, .move (.tmp 0), []⟩, ⟨some 7, none, .nonnil (.tmp 6), []⟩, ⟨some 8, none, .faddr 0 (.tmp 7), []⟩, ⟨some 9, none, .load none (.tmp 8), []⟩, ⟨some 10, none, .len (.tmp 9), []⟩, ⟨some 11, none, .bin .lss 3 (.tmp 5) (.tmp 10), []⟩]]) 
 (.cond (.tmp 11) .skip (.exit 0))) 
 (.seq 
 (.block 1 
 (.seq (.ops [.grp none [⟨some 14, none, .move (.tmp 4), []⟩, ⟨some 15, none, .bin .eql 3 (.tmp 14) (.const (.int .i64 0)), []⟩, ⟨some 16, none, .move (.tmp 15), []⟩],
  .grp (some (some 16, false)) [⟨some 17, none, .move (.tmp 0), []⟩, ⟨some 18, none, .nonnil (.tmp 17), []⟩, ⟨some 19, none, .faddr 0 (.tmp 18), []⟩, ⟨some 20, none, .load none (.tmp 19), []⟩, ⟨some 21, none, .move (.tmp 4), []⟩, ⟨some 22, none, .iaddr 3 (.tmp 20) (.tmp 21), []⟩, ⟨some 23, none, .faddr 0 (.tmp 22), []⟩, ⟨some 24, none, .load none (.tmp 23), []⟩, ⟨some 25, none, .move (.tmp 0), []⟩, ⟨some 26, none, .nonnil (.tmp 25), []⟩, ⟨some 27, none, .faddr 0 (.tmp 26), []⟩, ⟨some 28, none, .load none (.tmp 27), []⟩, ⟨some 29, none, .move (.tmp 4), []⟩, ⟨some 30, none, .bin .sub 3 (.tmp 29) (.const (.int .i64 1)), []⟩, ⟨some 31, none, .iaddr 3 (.tmp 28) (.tmp 30), []⟩, ⟨some 32, none, .faddr 0 (.tmp 31), []⟩, ⟨some 33, none, .load none (.tmp 32), []⟩, ⟨some 34, none, .bin .neq 3 (.tmp 24) (.tmp 33), []⟩],
  .grp none [⟨some 35, none, .pick (.tmp 16) (.const (.bool true)) (.tmp 34), []⟩]]) 
 (.cond (.tmp 35) (.ops [.grp none [⟨some 36, none, .move (.tmp 3), []⟩, ⟨some 37, none, .move (.tmp 0), []⟩, ⟨some 38, none, .nonnil (.tmp 37), []⟩, ⟨some 39, none, .faddr 0 (.tmp 38), []⟩, ⟨some 40, none, .load none (.tmp 39), []⟩, ⟨some 41, none, .move (.tmp 4), []⟩, ⟨some 42, none, .iaddr 3 (.tmp 40) (.tmp 41), []⟩, ⟨some 43, none, .faddr 0 (.tmp 42), []⟩, ⟨some 44, none, .load none (.tmp 43), []⟩, ⟨some 45, none, .row 3 1 1 #[.int .i64 0] [(0, .tmp 44)], []⟩, ⟨some 46, none, .append 3 1 8 (.tmp 36) (.tmp 45), []⟩, ⟨some 3, none, .move (.tmp 46), []⟩]]) .skip))) (.ops [.grp none [⟨some 12, none, .move (.tmp 4), []⟩, ⟨some 13, none, .bin .add 3 (.tmp 12) (.const (.int .i64 1)), []⟩, ⟨some 4, none, .move (.tmp 13), []⟩]])))))) 
 (.seq (.ops [.grp none [⟨some 47, none, .move (.tmp 3), []⟩, ⟨some 2, none, .move (.tmp 47), []⟩]]) .ret)))⟩
theorem low19 : lowG Try.prog 19 = some g19 := by kernel_rfl

def g20 : GFn :=
 ⟨54, [⟨6, none⟩], .seq (.ops [.grp none [⟨some 5, none, .box 29 (.tmp 2), []⟩, ⟨some 6, none, .move (.const (.bool false)), []⟩]]) 
 (.seq 
 (.seq (.ops [.grp none [⟨some 7, none, .faddr 0 (.tmp 5), []⟩, ⟨some 8, none, .load none (.tmp 7), []⟩]]) 
 (.block 0 
 (.seq 
 (.seq (.ops [.grp none [⟨some 10, none, .bin .eql 3 (.tmp 8) (.const (.int .i64 0)), []⟩, ⟨some 9, none, .move (.tmp 10), []⟩]]) 
 (.cond (.tmp 9) .skip 
 (.seq (.ops [.grp none [⟨some 11, none, .bin .eql 3 (.tmp 8) (.const (.int .i64 1)), []⟩, ⟨some 9, none, .move (.tmp 11), []⟩]]) 
 (.cond (.tmp 9) .skip (.ops [.grp none [⟨some 12, none, .bin .eql 3 (.tmp 8) (.const (.int .i64 2)), []⟩, ⟨some 9, none, .move (.tmp 12), []⟩]]))))) 
 (.cond (.tmp 9) 
 (.seq (.ops [.grp none [⟨some 13, none, .move (.tmp 0), []⟩, ⟨some 14, none, .faddr 1 (.tmp 5), []⟩, ⟨some 15, none, .load none (.tmp 14), []⟩, ⟨some 16, none, .faddr 3 (.tmp 5), []⟩, ⟨some 17, none, .load (some 2) (.tmp 16), []⟩, ⟨some 19, none, .move (.tmp 1), []⟩, ⟨some 20, none, .faddr 1 (.tmp 5), []⟩, ⟨some 21, none, .load none (.tmp 20), []⟩, ⟨some 22, none, .faddr 3 (.tmp 5), []⟩, ⟨some 23, none, .load (some 2) (.tmp 22), []⟩, ⟨some 18, none, .call 9 #[.tmp 13, .tmp 15, .tmp 17], [⟨some 23, none, .load (some 2) (.tmp 22)⟩, ⟨some 21, none, .load none (.tmp 20)⟩]⟩, ⟨some 24, none, .call 27 #[.tmp 19, .tmp 21, .tmp 23], []⟩, ⟨some 25, none, .bin .eql 30 (.tmp 18) (.tmp 24), []⟩, ⟨some 6, none, .move (.tmp 25), []⟩]]) .ret) 
 (.seq (.ops [.grp none [⟨some 27, none, .bin .eql 3 (.tmp 8) (.const (.int .i64 3)), []⟩, ⟨some 26, none, .move (.tmp 27), []⟩]]) 
 (.cond (.tmp 26) 
 (.seq (.ops [.grp none [⟨some 28, none, .move (.tmp 0), []⟩, ⟨some 29, none, .faddr 1 (.tmp 5), []⟩, ⟨some 30, none, .load none (.tmp 29), []⟩, ⟨some 31, none, .faddr 3 (.tmp 5), []⟩, ⟨some 32, none, .load (some 2) (.tmp 31), []⟩, ⟨some 34, none, .move (.tmp 1), []⟩, ⟨some 35, none, .faddr 1 (.tmp 5), []⟩, ⟨some 36, none, .load none (.tmp 35), []⟩, ⟨some 37, none, .faddr 3 (.tmp 5), []⟩, ⟨some 38, none, .load (some 2) (.tmp 37), []⟩, ⟨some 33, none, .call 10 #[.tmp 28, .tmp 30, .tmp 32], [⟨some 38, none, .load (some 2) (.tmp 37)⟩, ⟨some 36, none, .load none (.tmp 35)⟩]⟩, ⟨some 39, none, .call 28 #[.tmp 34, .tmp 36, .tmp 38], []⟩, ⟨some 40, none, .bin .eql 30 (.tmp 33) (.tmp 39), []⟩, ⟨some 6, none, .move (.tmp 40), []⟩]]) .ret) .skip)))))) 
 (.seq (.ops [.grp none [⟨some 41, none, .move (.tmp 0), []⟩, ⟨some 42, none, .faddr 1 (.tmp 5), []⟩, ⟨some 43, none, .load none (.tmp 42), []⟩, ⟨some 44, none, .faddr 2 (.tmp 5), []⟩, ⟨some 45, none, .load none (.tmp 44), []⟩, ⟨some 47, none, .move (.tmp 1), []⟩, ⟨some 48, none, .faddr 1 (.tmp 5), []⟩, ⟨some 49, none, .load none (.tmp 48), []⟩, ⟨some 50, none, .faddr 2 (.tmp 5), []⟩, ⟨some 51, none, .load none (.tmp 50), []⟩, ⟨some 46, none, .call 11 #[.tmp 41, .tmp 43, .tmp 45], [⟨some 51, none, .load none (.tmp 50)⟩, ⟨some 49, none, .load none (.tmp 48)⟩]⟩, ⟨some 52, none, .call 29 #[.tmp 47, .tmp 49, .tmp 51], []⟩, ⟨some 53, none, .bin .eql 30 (.tmp 46) (.tmp 52), []⟩, ⟨some 6, none, .move (.tmp 53), []⟩]]) .ret))⟩
theorem low20 : lowG Try.prog 20 = some g20 := by kernel_rfl

def g21 : GFn :=
 ⟨65, [⟨2, none⟩], .seq (.ops [.grp none [⟨some 2, none, .move (.const (.pointer none)), []⟩]]) 
 (.seq (.ops [.grp none [⟨some 5, none, .build #[(0, 1)] #[.slice none 0 0] [], []⟩, ⟨some 6, none, .box 60 (.tmp 5), []⟩, ⟨some 3, none, .move (.tmp 6), []⟩]]) 
 (.seq 
 (.seq (.ops [.grp none [⟨some 4, none, .move (.const (.int .i64 0)), []⟩]]) 
 (.block 0 
 (.loop 
 (.seq 
 (.seq (.ops [.grp none [⟨some 7, none, .move (.tmp 4), []⟩, ⟨some 8, none, .move (.tmp 0), []⟩, ⟨some 9, none, .len (.tmp 8), []⟩, ⟨some 10, none, .bin .lss 3 (.tmp 7) (.tmp 9), []⟩, ⟨some 11, none, .move (.tmp 10), []⟩],
  .grp (some (some 11, true)) [⟨some 12, none, .move (.tmp 4), []⟩, ⟨some 13, none, .bin .lss 3 (.tmp 12) (.const (.int .i64 80)), []⟩],
  .grp none [⟨some 14, none, .pick (.tmp 11) (.tmp 13) (.const (.bool false)), []⟩]]) 
 (.cond (.tmp 14) .skip (.exit 0))) 
 (.seq 
 (.block 1 
 (.seq (.ops [.grp none [⟨some 17, none, .move (.tmp 0), []⟩, ⟨some 18, none, .move (.tmp 4), []⟩, ⟨some 19, none, .iaddr 5 (.tmp 17) (.tmp 18), []⟩, ⟨some 20, none, .faddr 0 (.tmp 19), []⟩, ⟨some 21, none, .load none (.tmp 20), []⟩]]) 
 (.block 2 
 (.seq 
 (.seq (.ops [.grp none [⟨some 35, none, .bin .eql 3 (.tmp 21) (.const (.int .i64 0)), []⟩, ⟨some 34, none, .move (.tmp 35), []⟩]]) 
 (.cond (.tmp 34) .skip 
 (.seq (.ops [.grp none [⟨some 36, none, .bin .eql 3 (.tmp 21) (.const (.int .i64 1)), []⟩, ⟨some 34, none, .move (.tmp 36), []⟩]]) 
 (.cond (.tmp 34) .skip (.ops [.grp none [⟨some 37, none, .bin .eql 3 (.tmp 21) (.const (.int .i64 2)), []⟩, ⟨some 34, none, .move (.tmp 37), []⟩]]))))) 
 (.cond (.tmp 34) (.ops [.grp none [⟨some 38, none, .move (.tmp 3), []⟩, ⟨some 39, none, .move (.tmp 0), []⟩, ⟨some 40, none, .move (.tmp 4), []⟩, ⟨some 41, none, .iaddr 5 (.tmp 39) (.tmp 40), []⟩, ⟨some 42, none, .faddr 1 (.tmp 41), []⟩, ⟨some 43, none, .load none (.tmp 42), []⟩, ⟨some 44, none, .move (.tmp 0), []⟩, ⟨some 45, none, .move (.tmp 4), []⟩, ⟨some 46, none, .iaddr 5 (.tmp 44) (.tmp 45), []⟩, ⟨some 47, none, .faddr 3 (.tmp 46), []⟩, ⟨some 48, none, .load (some 2) (.tmp 47), []⟩, ⟨some 49, none, .call 27 #[.tmp 38, .tmp 43, .tmp 48], []⟩]]) 
 (.seq (.ops [.grp none [⟨some 51, none, .bin .eql 3 (.tmp 21) (.const (.int .i64 3)), []⟩, ⟨some 50, none, .move (.tmp 51), []⟩]]) 
 (.cond (.tmp 50) (.ops [.grp none [⟨some 52, none, .move (.tmp 3), []⟩, ⟨some 53, none, .move (.tmp 0), []⟩, ⟨some 54, none, .move (.tmp 4), []⟩, ⟨some 55, none, .iaddr 5 (.tmp 53) (.tmp 54), []⟩, ⟨some 56, none, .faddr 1 (.tmp 55), []⟩, ⟨some 57, none, .load none (.tmp 56), []⟩, ⟨some 58, none, .move (.tmp 0), []⟩, ⟨some 59, none, .move (.tmp 4), []⟩, ⟨some 60, none, .iaddr 5 (.tmp 58) (.tmp 59), []⟩, ⟨some 61, none, .faddr 3 (.tmp 60), []⟩, ⟨some 62, none, .load (some 2) (.tmp 61), []⟩, ⟨some 63, none, .call 28 #[.tmp 52, .tmp 57, .tmp 62], []⟩]]) (.ops [.grp none [⟨some 22, none, .move (.tmp 3), []⟩, ⟨some 23, none, .move (.tmp 0), []⟩, ⟨some 24, none, .move (.tmp 4), []⟩, ⟨some 25, none, .iaddr 5 (.tmp 23) (.tmp 24), []⟩, ⟨some 26, none, .faddr 1 (.tmp 25), []⟩, ⟨some 27, none, .load none (.tmp 26), []⟩, ⟨some 28, none, .move (.tmp 0), []⟩, ⟨some 29, none, .move (.tmp 4), []⟩, ⟨some 30, none, .iaddr 5 (.tmp 28) (.tmp 29), []⟩, ⟨some 31, none, .faddr 2 (.tmp 30), []⟩, ⟨some 32, none, .load none (.tmp 31), []⟩, ⟨some 33, none, .call 29 #[.tmp 22, .tmp 27, .tmp 32], []⟩]])))))))) (.ops [.grp none [⟨some 15, none, .move (.tmp 4), []⟩, ⟨some 16, none, .bin .add 3 (.tmp 15) (.const (.int .i64 1)), []⟩, ⟨some 4, none, .move (.tmp 16), []⟩]])))))) 
 (.seq (.ops [.grp none [⟨some 64, none, .move (.tmp 3), []⟩, ⟨some 2, none, .move (.tmp 64), []⟩]]) .ret)))⟩
theorem low21 : lowG Try.prog 21 = some g21 := by kernel_rfl

def g22 : GFn :=
 ⟨49, [⟨6, none⟩, ⟨7, none⟩], .seq (.ops [.grp none [⟨some 4, none, .box 27 (.tmp 1), []⟩, ⟨some 6, none, .move (.const (.int .i64 0)), []⟩, ⟨some 7, none, .move (.const (.bool false)), []⟩]]) 
 (.seq (.ops [.grp none [⟨some 12, none, .move (.tmp 0), []⟩, ⟨some 13, none, .len (.tmp 12), []⟩, ⟨some 8, none, .move (.tmp 13), []⟩]]) 
 (.seq (.ops [.grp none [⟨some 14, none, .move (.tmp 8), []⟩, ⟨some 9, none, .move (.const (.int .i64 0)), []⟩, ⟨some 10, none, .move (.tmp 14), []⟩]]) 
 (.seq 
 (.block 0 
 (.loop 
 (.seq 
 (.seq (.ops [.grp none [⟨some 15, none, .move (.tmp 9), []⟩, ⟨some 16, none, .move (.tmp 10), []⟩, ⟨some 17, none, .bin .lss 3 (.tmp 15) (.tmp 16), []⟩]]) 
 (.cond (.tmp 17) .skip (.exit 0))) 
 (.block 1 
 (.seq (.ops [.grp none [⟨some 18, none, .move (.tmp 9), []⟩, ⟨some 19, none, .move (.tmp 10), []⟩, ⟨some 20, none, .bin .add 3 (.tmp 18) (.tmp 19), []⟩, ⟨some 21, none, .conv .u64 (.tmp 20), []⟩, ⟨some 22, none, .bin .shr 63 (.tmp 21) (.const (.int .u64 1)), []⟩, ⟨some 23, none, .conv .i64 (.tmp 22), []⟩, ⟨some 11, none, .move (.tmp 23), []⟩]]) 
 (.seq (.ops [.grp none [⟨some 24, none, .move (.tmp 2), []⟩, ⟨some 25, none, .move (.tmp 0), []⟩, ⟨some 26, none, .move (.tmp 11), []⟩, ⟨some 27, none, .iaddr 2 (.tmp 25) (.tmp 26), []⟩, ⟨some 28, none, .load (some 2) (.tmp 27), []⟩, ⟨some 29, none, .load (some 2) (.tmp 4), []⟩, ⟨some 30, none, .callv (.tmp 24) #[.tmp 28, .tmp 29], []⟩, ⟨some 31, none, .bin .lss 3 (.tmp 30) (.const (.int .i64 0)), []⟩]]) 
 (.cond (.tmp 31) (.ops [.grp none [⟨some 32, none, .move (.tmp 11), []⟩, ⟨some 33, none, .bin .add 3 (.tmp 32) (.const (.int .i64 1)), []⟩, ⟨some 9, none, .move (.tmp 33), []⟩]]) (.ops [.grp none [⟨some 34, none, .move (.tmp 11), []⟩, ⟨some 10, none, .move (.tmp 34), []⟩]])))))))) 
 (.seq (.ops [.grp none [⟨some 35, none, .move (.tmp 9), []⟩, ⟨some 36, none, .move (.tmp 9), []⟩, ⟨some 37, none, .move (.tmp 8), []⟩, ⟨some 38, none, .bin .lss 3 (.tmp 36) (.tmp 37), []⟩, ⟨some 39, none, .move (.tmp 38), []⟩],
  .grp (some (some 39, true)) [⟨some 40, none, .move (.tmp 2), []⟩, ⟨some 41, none, .move (.tmp 0), []⟩, ⟨some 42, none, .move (.tmp 9), []⟩, ⟨some 43, none, .iaddr 2 (.tmp 41) (.tmp 42), []⟩, ⟨some 44, none, .load (some 2) (.tmp 43), []⟩, ⟨some 45, none, .load (some 2) (.tmp 4), []⟩, ⟨some 46, none, .callv (.tmp 40) #[.tmp 44, .tmp 45], []⟩, ⟨some 47, none, .bin .eql 3 (.tmp 46) (.const (.int .i64 0)), []⟩],
  .grp none [⟨some 48, none, .pick (.tmp 39) (.tmp 47) (.const (.bool false)), []⟩, ⟨some 6, none, .move (.tmp 35), []⟩, ⟨some 7, none, .move (.tmp 48), []⟩]]) .ret))))⟩
theorem low22 : lowG Try.prog 22 = some g22 := by kernel_rfl

def g23 : GFn :=
 ⟨20, [⟨4, none⟩], .seq (.ops [.grp none [⟨some 2, none, .box 27 (.tmp 0), []⟩, ⟨some 3, none, .box 27 (.tmp 1), []⟩, ⟨some 4, none, .move (.const (.int .i64 0)), []⟩]]) 
 (.seq 
 (.seq (.ops [.grp none [⟨some 5, none, .faddr 0 (.tmp 2), []⟩, ⟨some 6, none, .load none (.tmp 5), []⟩, ⟨some 7, none, .faddr 0 (.tmp 3), []⟩, ⟨some 8, none, .load none (.tmp 7), []⟩, ⟨some 9, none, .bin .neq 3 (.tmp 6) (.tmp 8), []⟩]]) 
 (.cond (.tmp 9) 
 (.seq (.ops [.grp none [⟨some 10, none, .faddr 0 (.tmp 2), []⟩, ⟨some 11, none, .load none (.tmp 10), []⟩, ⟨some 12, none, .faddr 0 (.tmp 3), []⟩, ⟨some 13, none, .load none (.tmp 12), []⟩, ⟨some 14, none, .call 30 #[.tmp 11, .tmp 13], []⟩, ⟨some 4, none, .move (.tmp 14), []⟩]]) .ret) .skip)) 
 (.seq (.ops [.grp none [⟨some 15, none, .faddr 1 (.tmp 2), []⟩, ⟨some 16, none, .load none (.tmp 15), []⟩, ⟨some 17, none, .faddr 1 (.tmp 3), []⟩, ⟨some 18, none, .load none (.tmp 17), []⟩, ⟨some 19, none, .call 30 #[.tmp 16, .tmp 18], []⟩, ⟨some 4, none, .move (.tmp 19), []⟩]]) .ret))⟩
theorem low23 : lowG Try.prog 23 = some g23 := by kernel_rfl

def g27 : GFn :=
 ⟨90, [⟨6, none⟩], .seq (.ops [.grp none [⟨some 5, none, .box 27 (.tmp 2), []⟩, ⟨some 6, none, .move (.const (.int .i64 0)), []⟩]]) 
 (.seq 
 (.seq (.ops [.grp none [⟨some 11, none, .move (.tmp 1), []⟩, ⟨some 12, none, .bin .lss 3 (.tmp 11) (.const (.int .i64 0)), []⟩, ⟨some 13, none, .move (.tmp 12), []⟩],
  .grp (some (some 13, false)) [⟨some 14, none, .move (.tmp 1), []⟩, ⟨some 15, none, .bin .gtr 3 (.tmp 14) (.const (.int .i64 1023)), []⟩],
  .grp none [⟨some 16, none, .pick (.tmp 13) (.const (.bool true)) (.tmp 15), []⟩, ⟨some 17, none, .move (.tmp 16), []⟩],
  .grp (some (some 17, false)) [⟨some 18, none, .faddr 0 (.tmp 5), []⟩, ⟨some 19, none, .load none (.tmp 18), []⟩, ⟨some 20, none, .bin .lss 3 (.tmp 19) (.const (.int .i64 0)), []⟩],
  .grp none [⟨some 21, none, .pick (.tmp 17) (.const (.bool true)) (.tmp 20), []⟩, ⟨some 22, none, .move (.tmp 21), []⟩],
  .grp (some (some 22, false)) [⟨some 23, none, .faddr 1 (.tmp 5), []⟩, ⟨some 24, none, .load none (.tmp 23), []⟩, ⟨some 25, none, .bin .lss 3 (.tmp 24) (.const (.int .i64 0)), []⟩],
  .grp none [⟨some 26, none, .pick (.tmp 22) (.const (.bool true)) (.tmp 25), []⟩, ⟨some 27, none, .move (.tmp 26), []⟩],
  .grp (some (some 27, false)) [⟨some 28, none, .faddr 1 (.tmp 5), []⟩, ⟨some 29, none, .load none (.tmp 28), []⟩, ⟨some 30, none, .bin .gtr 3 (.tmp 29) (.const (.int .i64 4095)), []⟩],
  .grp none [⟨some 31, none, .pick (.tmp 27) (.const (.bool true)) (.tmp 30), []⟩]]) 
 (.cond (.tmp 31) 
 (.seq (.ops [.grp none [⟨some 6, none, .move (.const (.int .i64 3)), []⟩]]) .ret) .skip)) 
 (.seq (.ops [.grp none [⟨some 32, none, .move (.tmp 1), []⟩, ⟨some 33, none, .load (some 2) (.tmp 5), []⟩, ⟨some 34, none, .build #[(0, 1), (1, 2)] #[.int .i64 0, .int .i64 0, .int .i64 0] [(0, .tmp 32), (1, .tmp 33)], []⟩, ⟨some 7, none, .zero 62 #[.int .i64 0, .int .i64 0, .int .i64 0], []⟩, ⟨none, none, .store 3 (.tmp 7) (.tmp 34), []⟩]]) 
 (.seq (.ops [.grp none [⟨some 8, none, .move (.const (.slice none 0 0)), []⟩]]) 
 (.seq (.ops [.grp none [⟨some 9, none, .move (.const (.bool false)), []⟩]]) 
 (.seq 
 (.seq (.ops [.grp none [⟨some 10, none, .move (.const (.int .i64 0)), []⟩]]) 
 (.block 0 
 (.loop 
 (.seq 
 (.seq (.ops [.grp none [⟨some 35, none, .move (.tmp 10), []⟩, ⟨some 36, none, .move (.tmp 0), []⟩, ⟨some 37, none, .nonnil (.tmp 36), []⟩, ⟨some 38, none, .faddr 0 (.tmp 37), []⟩, ⟨some 39, none, .load none (.tmp 38), []⟩, ⟨some 40, none, .len (.tmp 39), []⟩, ⟨some 41, none, .bin .lss 3 (.tmp 35) (.tmp 40), []⟩]]) 
 (.cond (.tmp 41) .skip (.exit 0))) 
 (.seq 
 (.block 1 
 (.seq 
 (.seq (.ops [.grp none [⟨some 44, none, .move (.tmp 0), []⟩, ⟨some 45, none, .nonnil (.tmp 44), []⟩, ⟨some 46, none, .faddr 0 (.tmp 45), []⟩, ⟨some 47, none, .load none (.tmp 46), []⟩, ⟨some 48, none, .move (.tmp 10), []⟩, ⟨some 49, none, .iaddr 3 (.tmp 47) (.tmp 48), []⟩, ⟨some 50, none, .load (some 3) (.tmp 49), []⟩, ⟨some 51, none, .load (some 3) (.tmp 7), []⟩, ⟨some 52, none, .bin .eql 62 (.tmp 50) (.tmp 51), []⟩]]) 
 (.cond (.tmp 52) 
 (.seq (.ops [.grp none [⟨some 6, none, .move (.const (.int .i64 7)), []⟩]]) .ret) .skip)) 
 (.seq 
 (.seq (.ops [.grp none [⟨some 53, none, .move (.tmp 9), []⟩, ⟨some 54, none, .un .not (.tmp 53), []⟩, ⟨some 55, none, .move (.tmp 54), []⟩],
  .grp (some (some 55, true)) [⟨some 56, none, .load (some 3) (.tmp 7), []⟩, ⟨some 57, none, .move (.tmp 0), []⟩, ⟨some 58, none, .nonnil (.tmp 57), []⟩, ⟨some 59, none, .faddr 0 (.tmp 58), []⟩, ⟨some 60, none, .load none (.tmp 59), []⟩, ⟨some 61, none, .move (.tmp 10), []⟩, ⟨some 62, none, .iaddr 3 (.tmp 60) (.tmp 61), []⟩, ⟨some 63, none, .load (some 3) (.tmp 62), []⟩, ⟨some 64, none, .call 35 #[.tmp 56, .tmp 63], []⟩],
  .grp none [⟨some 65, none, .pick (.tmp 55) (.tmp 64) (.const (.bool false)), []⟩]]) 
 (.cond (.tmp 65) 
 (.seq (.ops [.grp none [⟨some 66, none, .move (.tmp 8), []⟩, ⟨some 67, none, .load (some 3) (.tmp 7), []⟩, ⟨some 68, none, .row 62 3 1 #[.int .i64 0, .int .i64 0, .int .i64 0] [(0, .tmp 67)], []⟩, ⟨some 69, none, .append 62 3 24 (.tmp 66) (.tmp 68), []⟩, ⟨some 8, none, .move (.tmp 69), []⟩]]) (.ops [.grp none [⟨some 9, none, .move (.const (.bool true)), []⟩]])) .skip)) (.ops [.grp none [⟨some 70, none, .move (.tmp 8), []⟩, ⟨some 71, none, .move (.tmp 0), []⟩, ⟨some 72, none, .nonnil (.tmp 71), []⟩, ⟨some 73, none, .faddr 0 (.tmp 72), []⟩, ⟨some 74, none, .load none (.tmp 73), []⟩, ⟨some 75, none, .move (.tmp 10), []⟩, ⟨some 76, none, .iaddr 3 (.tmp 74) (.tmp 75), []⟩, ⟨some 77, none, .load (some 3) (.tmp 76), []⟩, ⟨some 78, none, .row 62 3 1 #[.int .i64 0, .int .i64 0, .int .i64 0] [(0, .tmp 77)], []⟩, ⟨some 79, none, .append 62 3 24 (.tmp 70) (.tmp 78), []⟩, ⟨some 8, none, .move (.tmp 79), []⟩]])))) (.ops [.grp none [⟨some 42, none, .move (.tmp 10), []⟩, ⟨some 43, none, .bin .add 3 (.tmp 42) (.const (.int .i64 1)), []⟩, ⟨some 10, none, .move (.tmp 43), []⟩]])))))) 
 (.seq 
 (.seq (.ops [.grp none [⟨some 80, none, .move (.tmp 9), []⟩, ⟨some 81, none, .un .not (.tmp 80), []⟩]]) 
 (.cond (.tmp 81) (.ops [.grp none [⟨some 82, none, .move (.tmp 8), []⟩, ⟨some 83, none, .load (some 3) (.tmp 7), []⟩, ⟨some 84, none, .row 62 3 1 #[.int .i64 0, .int .i64 0, .int .i64 0] [(0, .tmp 83)], []⟩, ⟨some 85, none, .append 62 3 24 (.tmp 82) (.tmp 84), []⟩, ⟨some 8, none, .move (.tmp 85), []⟩]]) .skip)) 
 (.seq (.ops [.grp none [⟨some 86, none, .move (.tmp 0), []⟩, ⟨some 87, none, .move (.tmp 8), []⟩, ⟨some 88, none, .nonnil (.tmp 86), []⟩, ⟨some 89, none, .faddr 0 (.tmp 88), []⟩, ⟨none, none, .store 1 (.tmp 89) (.tmp 87), []⟩]]) 
 (.seq (.ops [.grp none [⟨some 6, none, .move (.const (.int .i64 0)), []⟩]]) .ret))))))))⟩
theorem low27 : lowG Try.prog 27 = some g27 := by kernel_rfl

def g28 : GFn :=
 ⟨62, [⟨6, none⟩], .seq (.ops [.grp none [⟨some 5, none, .box 27 (.tmp 2), []⟩, ⟨some 6, none, .move (.const (.int .i64 0)), []⟩]]) 
 (.seq (.ops [.grp none [⟨some 7, none, .move (.const (.slice none 0 0)), []⟩]]) 
 (.seq 
 (.seq (.ops [.grp none [⟨some 8, none, .move (.const (.int .i64 0)), []⟩]]) 
 (.block 0 
 (.loop 
 (.seq 
 (.seq (.ops [.grp none [⟨some 9, none, .move (.tmp 8), []⟩, ⟨some 10, none, .move (.tmp 0), []⟩, ⟨some 11, none, .nonnil (.tmp 10), []⟩, ⟨some 12, none, .faddr 0 (.tmp 11), []⟩, ⟨some 13, none, .load none (.tmp 12), []⟩, ⟨some 14, none, .len (.tmp 13), []⟩, ⟨some 15, none, .bin .lss 3 (.tmp 9) (.tmp 14), []⟩]]) 
 (.cond (.tmp 15) .skip (.exit 0))) 
 (.seq 
 (.block 1 
 (.seq (.ops [.grp none [⟨some 18, none, .move (.tmp 0), []⟩, ⟨some 19, none, .nonnil (.tmp 18), []⟩, ⟨some 20, none, .faddr 0 (.tmp 19), []⟩, ⟨some 21, none, .load none (.tmp 20), []⟩, ⟨some 22, none, .move (.tmp 8), []⟩, ⟨some 23, none, .iaddr 3 (.tmp 21) (.tmp 22), []⟩, ⟨some 24, none, .faddr 0 (.tmp 23), []⟩, ⟨some 25, none, .load none (.tmp 24), []⟩, ⟨some 26, none, .move (.tmp 1), []⟩, ⟨some 27, none, .bin .neq 3 (.tmp 25) (.tmp 26), []⟩, ⟨some 28, none, .move (.tmp 27), []⟩],
  .grp (some (some 28, false)) [⟨some 29, none, .move (.tmp 0), []⟩, ⟨some 30, none, .nonnil (.tmp 29), []⟩, ⟨some 31, none, .faddr 0 (.tmp 30), []⟩, ⟨some 32, none, .load none (.tmp 31), []⟩, ⟨some 33, none, .move (.tmp 8), []⟩, ⟨some 34, none, .iaddr 3 (.tmp 32) (.tmp 33), []⟩, ⟨some 35, none, .faddr 1 (.tmp 34), []⟩, ⟨some 36, none, .load (some 2) (.tmp 35), []⟩, ⟨some 37, none, .load (some 2) (.tmp 5), []⟩, ⟨some 38, none, .bin .neq 27 (.tmp 36) (.tmp 37), []⟩],
  .grp none [⟨some 39, none, .pick (.tmp 28) (.const (.bool true)) (.tmp 38), []⟩]]) 
 (.cond (.tmp 39) (.ops [.grp none [⟨some 40, none, .move (.tmp 7), []⟩, ⟨some 41, none, .move (.tmp 0), []⟩, ⟨some 42, none, .nonnil (.tmp 41), []⟩, ⟨some 43, none, .faddr 0 (.tmp 42), []⟩, ⟨some 44, none, .load none (.tmp 43), []⟩, ⟨some 45, none, .move (.tmp 8), []⟩, ⟨some 46, none, .iaddr 3 (.tmp 44) (.tmp 45), []⟩, ⟨some 47, none, .load (some 3) (.tmp 46), []⟩, ⟨some 48, none, .row 62 3 1 #[.int .i64 0, .int .i64 0, .int .i64 0] [(0, .tmp 47)], []⟩, ⟨some 49, none, .append 62 3 24 (.tmp 40) (.tmp 48), []⟩, ⟨some 7, none, .move (.tmp 49), []⟩]]) .skip))) (.ops [.grp none [⟨some 16, none, .move (.tmp 8), []⟩, ⟨some 17, none, .bin .add 3 (.tmp 16) (.const (.int .i64 1)), []⟩, ⟨some 8, none, .move (.tmp 17), []⟩]])))))) 
 (.seq 
 (.seq (.ops [.grp none [⟨some 50, none, .move (.tmp 7), []⟩, ⟨some 51, none, .len (.tmp 50), []⟩, ⟨some 52, none, .move (.tmp 0), []⟩, ⟨some 53, none, .nonnil (.tmp 52), []⟩, ⟨some 54, none, .faddr 0 (.tmp 53), []⟩, ⟨some 55, none, .load none (.tmp 54), []⟩, ⟨some 56, none, .len (.tmp 55), []⟩, ⟨some 57, none, .bin .eql 3 (.tmp 51) (.tmp 56), []⟩]]) 
 (.cond (.tmp 57) 
 (.seq (.ops [.grp none [⟨some 6, none, .move (.const (.int .i64 6)), []⟩]]) .ret) .skip)) 
 (.seq (.ops [.grp none [⟨some 58, none, .move (.tmp 0), []⟩, ⟨some 59, none, .move (.tmp 7), []⟩, ⟨some 60, none, .nonnil (.tmp 58), []⟩, ⟨some 61, none, .faddr 0 (.tmp 60), []⟩, ⟨none, none, .store 1 (.tmp 61) (.tmp 59), []⟩]]) 
 (.seq (.ops [.grp none [⟨some 6, none, .move (.const (.int .i64 0)), []⟩]]) .ret)))))⟩
theorem low28 : lowG Try.prog 28 = some g28 := by kernel_rfl

def g29 : GFn :=
 ⟨46, [⟨6, none⟩], .seq (.ops [.grp none [⟨some 6, none, .move (.const (.int .i64 0)), []⟩]]) 
 (.seq 
 (.seq (.ops [.grp none [⟨some 9, none, .move (.tmp 2), []⟩, ⟨some 10, none, .bin .lss 3 (.tmp 9) (.const (.int .i64 0)), []⟩, ⟨some 11, none, .move (.tmp 10), []⟩],
  .grp (some (some 11, false)) [⟨some 12, none, .move (.tmp 2), []⟩, ⟨some 13, none, .bin .gtr 3 (.tmp 12) (.const (.int .i64 1023)), []⟩],
  .grp none [⟨some 14, none, .pick (.tmp 11) (.const (.bool true)) (.tmp 13), []⟩]]) 
 (.cond (.tmp 14) 
 (.seq (.ops [.grp none [⟨some 6, none, .move (.const (.int .i64 3)), []⟩]]) .ret) .skip)) 
 (.seq (.ops [.grp none [⟨some 15, none, .move (.tmp 0), []⟩, ⟨some 16, none, .move (.tmp 1), []⟩, ⟨some 17, none, .call 16 #[.tmp 15, .tmp 16], []⟩, ⟨some 7, none, .move (.tmp 17), []⟩]]) 
 (.seq 
 (.seq (.ops [.grp none [⟨some 18, none, .move (.tmp 7), []⟩, ⟨some 19, none, .len (.tmp 18), []⟩, ⟨some 20, none, .bin .eql 3 (.tmp 19) (.const (.int .i64 0)), []⟩]]) 
 (.cond (.tmp 20) 
 (.seq (.ops [.grp none [⟨some 6, none, .move (.const (.int .i64 6)), []⟩]]) .ret) .skip)) 
 (.seq 
 (.seq (.ops [.grp none [⟨some 21, none, .move (.tmp 0), []⟩, ⟨some 22, none, .move (.tmp 2), []⟩, ⟨some 23, none, .call 16 #[.tmp 21, .tmp 22], []⟩, ⟨some 24, none, .len (.tmp 23), []⟩, ⟨some 25, none, .bin .gtr 3 (.tmp 24) (.const (.int .i64 0)), []⟩]]) 
 (.cond (.tmp 25) 
 (.seq (.ops [.grp none [⟨some 6, none, .move (.const (.int .i64 7)), []⟩]]) .ret) .skip)) 
 (.seq 
 (.seq (.ops [.grp none [⟨some 8, none, .move (.const (.int .i64 0)), []⟩]]) 
 (.block 0 
 (.loop 
 (.seq 
 (.seq (.ops [.grp none [⟨some 26, none, .move (.tmp 8), []⟩, ⟨some 27, none, .move (.tmp 7), []⟩, ⟨some 28, none, .len (.tmp 27), []⟩, ⟨some 29, none, .bin .lss 3 (.tmp 26) (.tmp 28), []⟩]]) 
 (.cond (.tmp 29) .skip (.exit 0))) 
 (.seq 
 (.block 1 
 (.seq (.ops [.grp none [⟨some 32, none, .move (.tmp 0), []⟩, ⟨some 33, none, .move (.tmp 1), []⟩, ⟨some 34, none, .move (.tmp 7), []⟩, ⟨some 35, none, .move (.tmp 8), []⟩, ⟨some 36, none, .iaddr 2 (.tmp 34) (.tmp 35), []⟩, ⟨some 37, none, .load (some 2) (.tmp 36), []⟩, ⟨some 38, none, .call 28 #[.tmp 32, .tmp 33, .tmp 37], []⟩]]) (.ops [.grp none [⟨some 39, none, .move (.tmp 0), []⟩, ⟨some 40, none, .move (.tmp 2), []⟩, ⟨some 41, none, .move (.tmp 7), []⟩, ⟨some 42, none, .move (.tmp 8), []⟩, ⟨some 43, none, .iaddr 2 (.tmp 41) (.tmp 42), []⟩, ⟨some 44, none, .load (some 2) (.tmp 43), []⟩, ⟨some 45, none, .call 27 #[.tmp 39, .tmp 40, .tmp 44], []⟩]]))) (.ops [.grp none [⟨some 30, none, .move (.tmp 8), []⟩, ⟨some 31, none, .bin .add 3 (.tmp 30) (.const (.int .i64 1)), []⟩, ⟨some 8, none, .move (.tmp 31), []⟩]])))))) 
 (.seq (.ops [.grp none [⟨some 6, none, .move (.const (.int .i64 0)), []⟩]]) .ret))))))⟩
theorem low29 : lowG Try.prog 29 = some g29 := by kernel_rfl

def g30 : GFn :=
 ⟨13, [⟨4, none⟩], .seq (.ops [.grp none [⟨some 4, none, .move (.const (.int .i64 0)), []⟩]]) 
 (.seq 
 (.block 0 
 (.seq (.ops [.grp none [⟨some 6, none, .move (.tmp 0), []⟩, ⟨some 7, none, .move (.tmp 1), []⟩, ⟨some 8, none, .bin .lss 3 (.tmp 6) (.tmp 7), []⟩, ⟨some 5, none, .move (.tmp 8), []⟩]]) 
 (.cond (.tmp 5) 
 (.seq (.ops [.grp none [⟨some 4, none, .move (.const (.int .i64 (-1))), []⟩]]) .ret) 
 (.seq (.ops [.grp none [⟨some 10, none, .move (.tmp 0), []⟩, ⟨some 11, none, .move (.tmp 1), []⟩, ⟨some 12, none, .bin .gtr 3 (.tmp 10) (.tmp 11), []⟩, ⟨some 9, none, .move (.tmp 12), []⟩]]) 
 (.cond (.tmp 9) 
 (.seq (.ops [.grp none [⟨some 4, none, .move (.const (.int .i64 1)), []⟩]]) .ret) .skip))))) 
 (.seq (.ops [.grp none [⟨some 4, none, .move (.const (.int .i64 0)), []⟩]]) .ret))⟩
theorem low30 : lowG Try.prog 30 = some g30 := by kernel_rfl

def g35 : GFn :=
 ⟨36, [⟨4, none⟩], .seq (.ops [.grp none [⟨some 2, none, .box 62 (.tmp 0), []⟩, ⟨some 3, none, .box 62 (.tmp 1), []⟩, ⟨some 4, none, .move (.const (.bool false)), []⟩]]) 
 (.seq 
 (.seq (.ops [.grp none [⟨some 5, none, .faddr 0 (.tmp 2), []⟩, ⟨some 6, none, .load none (.tmp 5), []⟩, ⟨some 7, none, .faddr 0 (.tmp 3), []⟩, ⟨some 8, none, .load none (.tmp 7), []⟩, ⟨some 9, none, .bin .neq 3 (.tmp 6) (.tmp 8), []⟩]]) 
 (.cond (.tmp 9) 
 (.seq (.ops [.grp none [⟨some 10, none, .faddr 0 (.tmp 2), []⟩, ⟨some 11, none, .load none (.tmp 10), []⟩, ⟨some 12, none, .faddr 0 (.tmp 3), []⟩, ⟨some 13, none, .load none (.tmp 12), []⟩, ⟨some 14, none, .bin .lss 3 (.tmp 11) (.tmp 13), []⟩, ⟨some 4, none, .move (.tmp 14), []⟩]]) .ret) .skip)) 
 (.seq 
 (.seq (.ops [.grp none [⟨some 15, none, .faddr 1 (.tmp 2), []⟩, ⟨some 16, none, .faddr 0 (.tmp 15), []⟩, ⟨some 17, none, .load none (.tmp 16), []⟩, ⟨some 18, none, .faddr 1 (.tmp 3), []⟩, ⟨some 19, none, .faddr 0 (.tmp 18), []⟩, ⟨some 20, none, .load none (.tmp 19), []⟩, ⟨some 21, none, .bin .neq 3 (.tmp 17) (.tmp 20), []⟩]]) 
 (.cond (.tmp 21) 
 (.seq (.ops [.grp none [⟨some 22, none, .faddr 1 (.tmp 2), []⟩, ⟨some 23, none, .faddr 0 (.tmp 22), []⟩, ⟨some 24, none, .load none (.tmp 23), []⟩, ⟨some 25, none, .faddr 1 (.tmp 3), []⟩, ⟨some 26, none, .faddr 0 (.tmp 25), []⟩, ⟨some 27, none, .load none (.tmp 26), []⟩, ⟨some 28, none, .bin .lss 3 (.tmp 24) (.tmp 27), []⟩, ⟨some 4, none, .move (.tmp 28), []⟩]]) .ret) .skip)) 
 (.seq (.ops [.grp none [⟨some 29, none, .faddr 1 (.tmp 2), []⟩, ⟨some 30, none, .faddr 1 (.tmp 29), []⟩, ⟨some 31, none, .load none (.tmp 30), []⟩, ⟨some 32, none, .faddr 1 (.tmp 3), []⟩, ⟨some 33, none, .faddr 1 (.tmp 32), []⟩, ⟨some 34, none, .load none (.tmp 33), []⟩, ⟨some 35, none, .bin .lss 3 (.tmp 31) (.tmp 34), []⟩, ⟨some 4, none, .move (.tmp 35), []⟩]]) .ret)))⟩
theorem low35 : lowG Try.prog 35 = some g35 := by kernel_rfl


def g24 : GFn :=
 ⟨95, [⟨6, none⟩], .seq (.ops [.grp none [⟨some 6, none, .move (.const (.slice none 0 0)), []⟩]]) 
 (.seq (.ops [.grp none [⟨some 10, none, .move (.tmp 0), []⟩, ⟨some 11, none, .move (.tmp 1), []⟩, ⟨some 12, none, .slice 27 2 (.tmp 10) (some (.tmp 11)) none none, []⟩]]) 
 (.seq (.ops [.grp none [⟨some 13, none, .move (.tmp 2), []⟩, ⟨some 14, none, .len (.tmp 13), []⟩, ⟨some 7, none, .move (.tmp 14), []⟩]]) 
 (.seq 
 (.seq (.ops [.grp none [⟨some 15, none, .move (.tmp 7), []⟩, ⟨some 16, none, .bin .eql 3 (.tmp 15) (.const (.int .i64 0)), []⟩]]) 
 (.cond (.tmp 16) 
 (.seq (.ops [.grp none [⟨some 17, none, .move (.tmp 0), []⟩, ⟨some 6, none, .move (.tmp 17), []⟩]]) .ret) .skip)) 
 (.seq (.ops [.grp none [⟨some 18, none, .move (.tmp 0), []⟩, ⟨some 19, none, .len (.tmp 18), []⟩, ⟨some 8, none, .move (.tmp 19), []⟩]]) 
 (.seq 
 (.seq (.ops [.grp none [⟨some 20, none, .move (.tmp 1), []⟩, ⟨some 21, none, .move (.tmp 8), []⟩, ⟨some 22, none, .bin .eql 3 (.tmp 20) (.tmp 21), []⟩]]) 
 (.cond (.tmp 22) 
 (.seq (.ops [.grp none [⟨some 23, none, .move (.tmp 0), []⟩, ⟨some 24, none, .move (.tmp 2), []⟩, ⟨some 25, none, .append 27 2 16 (.tmp 23) (.tmp 24), []⟩, ⟨some 6, none, .move (.tmp 25), []⟩]]) .ret) .skip)) 
 (.seq 
 (.seq (.ops [.grp none [⟨some 26, none, .move (.tmp 8), []⟩, ⟨some 27, none, .move (.tmp 7), []⟩, ⟨some 28, none, .bin .add 3 (.tmp 26) (.tmp 27), []⟩, ⟨some 29, none, .move (.tmp 0), []⟩, ⟨some 30, none, .raw (Op.call { callee := Callee.builtin Builtin.cap, args := #[.tmp 29], argTypes := #[36] }) 3, []⟩, ⟨some 31, none, .bin .gtr 3 (.tmp 28) (.tmp 30), []⟩]]) 
 (.cond (.tmp 31) 
 (.seq (.ops [.grp none [⟨some 32, none, .move (.tmp 0), []⟩, ⟨some 33, none, .move (.tmp 1), []⟩, ⟨some 34, none, .slice 27 2 (.tmp 32) none (some (.tmp 33)) none, []⟩, ⟨some 35, none, .move (.tmp 8), []⟩, ⟨some 36, none, .move (.tmp 7), []⟩, ⟨some 37, none, .bin .add 3 (.tmp 35) (.tmp 36), []⟩, ⟨some 38, none, .move (.tmp 1), []⟩, ⟨some 39, none, .bin .sub 3 (.tmp 37) (.tmp 38), []⟩, ⟨some 40, none, .raw (Op.call { callee := Callee.builtin Builtin.append, args := #[.tmp 34, .tmp 39], argTypes := #[36, 3] }) 36, []⟩, ⟨some 9, none, .move (.tmp 40), []⟩]]) 
 (.seq (.ops [.grp none [⟨some 41, none, .move (.tmp 9), []⟩, ⟨some 42, none, .move (.tmp 1), []⟩, ⟨some 43, none, .slice 27 2 (.tmp 41) (some (.tmp 42)) none none, []⟩, ⟨some 44, none, .move (.tmp 2), []⟩, ⟨some 45, none, .raw (Op.call { callee := Callee.builtin Builtin.copy, args := #[.tmp 43, .tmp 44], argTypes := #[36, 36] }) 3, []⟩]]) 
 (.seq (.ops [.grp none [⟨some 46, none, .move (.tmp 9), []⟩, ⟨some 47, none, .move (.tmp 1), []⟩, ⟨some 48, none, .move (.tmp 7), []⟩, ⟨some 49, none, .bin .add 3 (.tmp 47) (.tmp 48), []⟩, ⟨some 50, none, .slice 27 2 (.tmp 46) (some (.tmp 49)) none none, []⟩, ⟨some 51, none, .move (.tmp 0), []⟩, ⟨some 52, none, .move (.tmp 1), []⟩, ⟨some 53, none, .slice 27 2 (.tmp 51) (some (.tmp 52)) none none, []⟩, ⟨some 54, none, .raw (Op.call { callee := Callee.builtin Builtin.copy, args := #[.tmp 50, .tmp 53], argTypes := #[36, 36] }) 3, []⟩]]) 
 (.seq (.ops [.grp none [⟨some 55, none, .move (.tmp 9), []⟩, ⟨some 6, none, .move (.tmp 55), []⟩]]) .ret)))) .skip)) 
 (.seq (.ops [.grp none [⟨some 56, none, .move (.tmp 0), []⟩, ⟨some 57, none, .move (.tmp 8), []⟩, ⟨some 58, none, .move (.tmp 7), []⟩, ⟨some 59, none, .bin .add 3 (.tmp 57) (.tmp 58), []⟩, ⟨some 60, none, .slice 27 2 (.tmp 56) none (some (.tmp 59)) none, []⟩, ⟨some 0, none, .move (.tmp 60), []⟩]]) 
 (.seq 
 (.seq (.ops [.grp none [⟨some 61, none, .move (.tmp 2), []⟩, ⟨some 62, none, .move (.tmp 0), []⟩, ⟨some 63, none, .move (.tmp 1), []⟩, ⟨some 64, none, .move (.tmp 7), []⟩, ⟨some 65, none, .bin .add 3 (.tmp 63) (.tmp 64), []⟩, ⟨some 66, none, .slice 27 2 (.tmp 62) (some (.tmp 65)) none none, []⟩, ⟨some 67, none, .raw (Op.call { callee := Callee.value (.func 31), args := #[.tmp 61, .tmp 66], argTypes := #[36, 36] }) 4, []⟩, ⟨some 68, none, .un .not (.tmp 67), []⟩]]) 
 (.cond (.tmp 68) 
 (.seq (.ops [.grp none [⟨some 69, none, .move (.tmp 0), []⟩, ⟨some 70, none, .move (.tmp 1), []⟩, ⟨some 71, none, .move (.tmp 7), []⟩, ⟨some 72, none, .bin .add 3 (.tmp 70) (.tmp 71), []⟩, ⟨some 73, none, .slice 27 2 (.tmp 69) (some (.tmp 72)) none none, []⟩, ⟨some 74, none, .move (.tmp 0), []⟩, ⟨some 75, none, .move (.tmp 1), []⟩, ⟨some 76, none, .slice 27 2 (.tmp 74) (some (.tmp 75)) none none, []⟩, ⟨some 77, none, .raw (Op.call { callee := Callee.builtin Builtin.copy, args := #[.tmp 73, .tmp 76], argTypes := #[36, 36] }) 3, []⟩]]) 
 (.seq (.ops [.grp none [⟨some 78, none, .move (.tmp 0), []⟩, ⟨some 79, none, .move (.tmp 1), []⟩, ⟨some 80, none, .slice 27 2 (.tmp 78) (some (.tmp 79)) none none, []⟩, ⟨some 81, none, .move (.tmp 2), []⟩, ⟨some 82, none, .raw (Op.call { callee := Callee.builtin Builtin.copy, args := #[.tmp 80, .tmp 81], argTypes := #[36, 36] }) 3, []⟩]]) 
 (.seq (.ops [.grp none [⟨some 83, none, .move (.tmp 0), []⟩, ⟨some 6, none, .move (.tmp 83), []⟩]]) .ret))) .skip)) 
 (.seq (.ops [.grp none [⟨some 84, none, .move (.tmp 0), []⟩, ⟨some 85, none, .move (.tmp 8), []⟩, ⟨some 86, none, .slice 27 2 (.tmp 84) (some (.tmp 85)) none none, []⟩, ⟨some 87, none, .move (.tmp 2), []⟩, ⟨some 88, none, .raw (Op.call { callee := Callee.builtin Builtin.copy, args := #[.tmp 86, .tmp 87], argTypes := #[36, 36] }) 3, []⟩]]) 
 (.seq (.ops [.grp none [⟨some 89, none, .move (.tmp 0), []⟩, ⟨some 90, none, .move (.tmp 1), []⟩, ⟨some 91, none, .slice 27 2 (.tmp 89) (some (.tmp 90)) none none, []⟩, ⟨some 92, none, .move (.tmp 7), []⟩, ⟨some 93, none, .call 32 #[.tmp 91, .tmp 92], []⟩]]) 
 (.seq (.ops [.grp none [⟨some 94, none, .move (.tmp 0), []⟩, ⟨some 6, none, .move (.tmp 94), []⟩]]) .ret)))))))))))⟩
theorem low24 : lowG Try.prog 24 = some g24 := by kernel_rfl


end Go.Proofs.Ytcfhhfdkecbphaa
