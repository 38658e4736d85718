/-
  The small words of the functions that the Cpus rows reach (beyond those of the TLB texts).
-/
import Derived.Test.YtplcocifndpplaaRows
import Derived.Test.YtplcocifndpplaaJj
namespace Go.Proofs.Ytplcocifndpplaa
open Go Go.Ideal

def g9 : GFn :=
 ⟨213, [⟨2, none⟩], .seq (.ops [.grp none [⟨some 2, none, .move (.const (.bool false)), []⟩]]) 
 (.seq (.ops [.grp none [⟨some 15, none, .call 27 #[.const (.int .i64 3), .const (.int .i64 5)], []⟩, ⟨some 14, none, .move (.tmp 15), []⟩, ⟨some 16, none, .extract (.tmp 14) 0, []⟩, ⟨some 17, none, .extract (.tmp 14) 1, []⟩, ⟨some 3, none, .move (.tmp 16), []⟩, ⟨some 4, none, .move (.tmp 17), []⟩]]) 
 (.seq 
 (.seq (.ops [.grp none [⟨some 18, none, .move (.tmp 4), []⟩, ⟨some 19, none, .bin .neq 47 (.tmp 18) (.const (.int .i64 0)), []⟩, ⟨some 20, none, .move (.tmp 19), []⟩],
  .grp (some (some 20, false)) [⟨some 21, none, .move (.tmp 3), []⟩, ⟨some 22, none, .bin .eql 57 (.tmp 21) (.const (.pointer none)), []⟩],
  .grp none [⟨some 23, none, .pick (.tmp 20) (.const (.bool true)) (.tmp 22), []⟩, ⟨some 24, none, .move (.tmp 23), []⟩],
  .grp (some (some 24, false)) [⟨some 25, none, .call 28 #[], []⟩, ⟨some 26, none, .un .not (.tmp 25), []⟩],
  .grp none [⟨some 27, none, .pick (.tmp 24) (.const (.bool true)) (.tmp 26), []⟩]]) 
 (.cond (.tmp 27) 
 (.seq (.ops [.grp none [⟨some 2, none, .move (.const (.bool false)), []⟩]]) .ret) .skip)) 
 (.seq (.ops [.grp none [⟨some 5, none, .move (.const (.slice none 0 0)), []⟩]]) 
 (.seq 
 (.seq (.ops [.grp none [⟨some 6, none, .move (.const (.int .i64 0)), []⟩]]) 
 (.block 0 
 (.loop 
 (.seq 
 (.seq (.ops [.grp none [⟨some 28, none, .move (.tmp 6), []⟩, ⟨some 29, none, .move (.tmp 0), []⟩, ⟨some 30, none, .len (.tmp 29), []⟩, ⟨some 31, none, .bin .lss 3 (.tmp 28) (.tmp 30), []⟩, ⟨some 32, none, .move (.tmp 31), []⟩],
  .grp (some (some 32, true)) [⟨some 33, none, .move (.tmp 6), []⟩, ⟨some 34, none, .bin .lss 3 (.tmp 33) (.const (.int .i64 60)), []⟩],
  .grp none [⟨some 35, none, .pick (.tmp 32) (.tmp 34) (.const (.bool false)), []⟩]]) 
 (.cond (.tmp 35) .skip (.exit 0))) 
 (.seq 
 (.block 1 
 (.seq (.ops [.grp none [⟨some 38, none, .move (.tmp 0), []⟩, ⟨some 39, none, .move (.tmp 6), []⟩, ⟨some 40, none, .iaddr 10 (.tmp 38) (.tmp 39), []⟩, ⟨some 41, none, .load (some 10) (.tmp 40), []⟩, ⟨some 7, none, .zero 62 #[.int .i64 0, .int .i64 0, .int .i64 0, .int .i64 0, .int .i64 0, .int .i64 0, .int .i64 0, .int .i64 0, .int .i64 0, .bool false], []⟩, ⟨none, none, .store 10 (.tmp 7) (.tmp 41), []⟩]]) 
 (.seq (.ops [.grp none [⟨some 42, none, .faddr 0 (.tmp 7), []⟩, ⟨some 43, none, .load none (.tmp 42), []⟩]]) 
 (.block 2 
 (.seq 
 (.seq (.ops [.grp none [⟨some 51, none, .bin .eql 3 (.tmp 43) (.const (.int .i64 0)), []⟩, ⟨some 50, none, .move (.tmp 51), []⟩]]) 
 (.cond (.tmp 50) .skip 
 (.seq (.ops [.grp none [⟨some 52, none, .bin .eql 3 (.tmp 43) (.const (.int .i64 1)), []⟩, ⟨some 50, none, .move (.tmp 52), []⟩]]) 
 (.cond (.tmp 50) .skip (.ops [.grp none [⟨some 53, none, .bin .eql 3 (.tmp 43) (.const (.int .i64 2)), []⟩, ⟨some 50, none, .move (.tmp 53), []⟩]]))))) 
 (.cond (.tmp 50) 
 (.seq (.ops [.grp none [⟨some 54, none, .move (.tmp 3), []⟩, ⟨some 55, none, .faddr 1 (.tmp 7), []⟩, ⟨some 56, none, .load none (.tmp 55), []⟩, ⟨some 57, none, .faddr 5 (.tmp 7), []⟩, ⟨some 58, none, .load (some 5) (.tmp 57), []⟩, ⟨some 59, none, .call 29 #[.tmp 54, .tmp 56, .tmp 58], []⟩, ⟨some 60, none, .bin .eql 47 (.tmp 59) (.const (.int .i64 0)), []⟩]]) 
 (.cond (.tmp 60) (.ops [.grp none [⟨some 61, none, .move (.tmp 5), []⟩, ⟨some 62, none, .faddr 1 (.tmp 7), []⟩, ⟨some 63, none, .load none (.tmp 62), []⟩, ⟨some 64, none, .move (.tmp 6), []⟩, ⟨some 65, none, .faddr 5 (.tmp 7), []⟩, ⟨some 66, none, .load (some 5) (.tmp 65), []⟩, ⟨some 67, none, .build #[(0, 1), (1, 1), (2, 5)] #[.int .i64 0, .int .i64 0, .int .i64 0, .int .i64 0, .int .i64 0, .int .i64 0, .bool false] [(0, .tmp 63), (1, .tmp 64), (2, .tmp 66)], []⟩, ⟨some 68, none, .row 65 7 1 #[.int .i64 0, .int .i64 0, .int .i64 0, .int .i64 0, .int .i64 0, .int .i64 0, .bool false] [(0, .tmp 67)], []⟩, ⟨some 69, none, .append 65 7 56 (.tmp 61) (.tmp 68), []⟩, ⟨some 5, none, .move (.tmp 69), []⟩]]) .skip)) 
 (.seq 
 (.seq (.ops [.grp none [⟨some 71, none, .bin .eql 3 (.tmp 43) (.const (.int .i64 3)), []⟩, ⟨some 70, none, .move (.tmp 71), []⟩]]) 
 (.cond (.tmp 70) .skip (.ops [.grp none [⟨some 72, none, .bin .eql 3 (.tmp 43) (.const (.int .i64 4)), []⟩, ⟨some 70, none, .move (.tmp 72), []⟩]]))) 
 (.cond (.tmp 70) 
 (.seq (.ops [.grp none [⟨some 74, none, .move (.tmp 3), []⟩, ⟨some 75, none, .faddr 1 (.tmp 7), []⟩, ⟨some 76, none, .load none (.tmp 75), []⟩, ⟨some 77, none, .faddr 2 (.tmp 7), []⟩, ⟨some 78, none, .load none (.tmp 77), []⟩, ⟨some 79, none, .faddr 3 (.tmp 7), []⟩, ⟨some 80, none, .load none (.tmp 79), []⟩, ⟨some 81, none, .call 30 #[.tmp 74, .tmp 76, .tmp 78, .tmp 80], []⟩, ⟨some 73, none, .move (.tmp 81), []⟩, ⟨some 82, none, .extract (.tmp 73) 0, []⟩, ⟨some 83, none, .extract (.tmp 73) 1, []⟩, ⟨some 8, none, .zero 31 #[.int .i64 0, .int .i64 0, .int .i64 0, .int .i64 0, .bool false], []⟩, ⟨none, none, .store 5 (.tmp 8) (.tmp 82), []⟩, ⟨some 9, none, .move (.tmp 83), []⟩]]) 
 (.seq 
 (.seq (.ops [.grp none [⟨some 84, none, .move (.tmp 9), []⟩, ⟨some 85, none, .un .not (.tmp 84), []⟩]]) 
 (.cond (.tmp 85) (.exit 1) .skip)) 
 (.seq (.ops [.grp none [⟨some 10, none, .move (.const (.int .i64 (-1))), []⟩]]) 
 (.seq 
 (.seq (.ops [.grp none [⟨some 11, none, .move (.const (.int .i64 0)), []⟩]]) 
 (.block 3 
 (.loop 
 (.seq 
 (.seq (.ops [.grp none [⟨some 86, none, .move (.tmp 11), []⟩, ⟨some 87, none, .move (.tmp 5), []⟩, ⟨some 88, none, .len (.tmp 87), []⟩, ⟨some 89, none, .bin .lss 3 (.tmp 86) (.tmp 88), []⟩]]) 
 (.cond (.tmp 89) .skip (.exit 3))) 
 (.seq 
 (.block 4 
 (.seq (.ops [.grp none [⟨some 92, none, .move (.tmp 5), []⟩, ⟨some 93, none, .move (.tmp 11), []⟩, ⟨some 94, none, .iaddr 7 (.tmp 92) (.tmp 93), []⟩, ⟨some 95, none, .faddr 0 (.tmp 94), []⟩, ⟨some 96, none, .load none (.tmp 95), []⟩, ⟨some 97, none, .faddr 1 (.tmp 7), []⟩, ⟨some 98, none, .load none (.tmp 97), []⟩, ⟨some 99, none, .bin .eql 3 (.tmp 96) (.tmp 98), []⟩, ⟨some 100, none, .move (.tmp 99), []⟩],
  .grp (some (some 100, true)) [⟨some 101, none, .move (.tmp 5), []⟩, ⟨some 102, none, .move (.tmp 11), []⟩, ⟨some 103, none, .iaddr 7 (.tmp 101) (.tmp 102), []⟩, ⟨some 104, none, .faddr 2 (.tmp 103), []⟩, ⟨some 105, none, .load (some 5) (.tmp 104), []⟩, ⟨some 106, none, .load (some 5) (.tmp 8), []⟩, ⟨some 107, none, .bin .eql 31 (.tmp 105) (.tmp 106), []⟩],
  .grp none [⟨some 108, none, .pick (.tmp 100) (.tmp 107) (.const (.bool false)), []⟩]]) 
 (.cond (.tmp 108) (.ops [.grp none [⟨some 109, none, .move (.tmp 5), []⟩, ⟨some 110, none, .move (.tmp 11), []⟩, ⟨some 111, none, .iaddr 7 (.tmp 109) (.tmp 110), []⟩, ⟨some 112, none, .faddr 1 (.tmp 111), []⟩, ⟨some 113, none, .load none (.tmp 112), []⟩, ⟨some 10, none, .move (.tmp 113), []⟩]]) .skip))) (.ops [.grp none [⟨some 90, none, .move (.tmp 11), []⟩, ⟨some 91, none, .bin .add 3 (.tmp 90) (.const (.int .i64 1)), []⟩, ⟨some 11, none, .move (.tmp 91), []⟩]])))))) 
 (.seq 
 (.seq (.ops [.grp none [⟨some 114, none, .move (.tmp 10), []⟩, ⟨some 115, none, .bin .lss 3 (.tmp 114) (.const (.int .i64 0)), []⟩, ⟨some 116, none, .move (.tmp 115), []⟩],
  .grp (some (some 116, false)) [⟨some 117, none, .load (some 5) (.tmp 8), []⟩, ⟨some 118, none, .faddr 2 (.tmp 7), []⟩, ⟨some 119, none, .load none (.tmp 118), []⟩, ⟨some 120, none, .faddr 3 (.tmp 7), []⟩, ⟨some 121, none, .load none (.tmp 120), []⟩, ⟨some 122, none, .call 20 #[.tmp 117, .tmp 119, .tmp 121], []⟩, ⟨some 123, none, .un .not (.tmp 122), []⟩],
  .grp none [⟨some 124, none, .pick (.tmp 116) (.const (.bool true)) (.tmp 123), []⟩]]) 
 (.cond (.tmp 124) 
 (.seq (.ops [.grp none [⟨some 2, none, .move (.const (.bool false)), []⟩]]) .ret) .skip)) 
 (.seq (.ops [.grp none [⟨some 125, none, .move (.tmp 10), []⟩, ⟨some 12, none, .move (.tmp 125), []⟩]]) 
 (.block 5 
 (.loop 
 (.seq 
 (.seq (.ops [.grp none [⟨some 126, none, .move (.tmp 12), []⟩, ⟨some 127, none, .move (.tmp 6), []⟩, ⟨some 128, none, .bin .lss 3 (.tmp 126) (.tmp 127), []⟩]]) 
 (.cond (.tmp 128) .skip (.exit 5))) 
 (.seq 
 (.block 6 
 (.seq (.ops [.grp none [⟨some 131, none, .move (.tmp 0), []⟩, ⟨some 132, none, .move (.tmp 12), []⟩, ⟨some 133, none, .iaddr 10 (.tmp 131) (.tmp 132), []⟩, ⟨some 134, none, .load (some 10) (.tmp 133), []⟩, ⟨some 13, none, .zero 62 #[.int .i64 0, .int .i64 0, .int .i64 0, .int .i64 0, .int .i64 0, .int .i64 0, .int .i64 0, .int .i64 0, .int .i64 0, .bool false], []⟩, ⟨none, none, .store 10 (.tmp 13) (.tmp 134), []⟩]]) 
 (.seq (.ops [.grp none [⟨some 135, none, .faddr 0 (.tmp 13), []⟩, ⟨some 136, none, .load none (.tmp 135), []⟩, ⟨some 137, none, .bin .gtr 3 (.tmp 136) (.const (.int .i64 4)), []⟩, ⟨some 138, none, .move (.tmp 137), []⟩],
  .grp (some (some 138, true)) [⟨some 139, none, .faddr 0 (.tmp 13), []⟩, ⟨some 140, none, .load none (.tmp 139), []⟩, ⟨some 141, none, .bin .lss 3 (.tmp 140) (.const (.int .i64 8)), []⟩],
  .grp none [⟨some 142, none, .pick (.tmp 138) (.tmp 141) (.const (.bool false)), []⟩, ⟨some 143, none, .move (.tmp 142), []⟩],
  .grp (some (some 143, true)) [⟨some 144, none, .faddr 2 (.tmp 13), []⟩, ⟨some 145, none, .load none (.tmp 144), []⟩, ⟨some 146, none, .faddr 0 (.tmp 8), []⟩, ⟨some 147, none, .load none (.tmp 146), []⟩, ⟨some 148, none, .bin .eql 3 (.tmp 145) (.tmp 147), []⟩],
  .grp none [⟨some 149, none, .pick (.tmp 143) (.tmp 148) (.const (.bool false)), []⟩, ⟨some 150, none, .move (.tmp 149), []⟩],
  .grp (some (some 150, true)) [⟨some 151, none, .faddr 4 (.tmp 13), []⟩, ⟨some 152, none, .load none (.tmp 151), []⟩, ⟨some 153, none, .bin .gtr 3 (.tmp 152) (.const (.int .i64 0)), []⟩],
  .grp none [⟨some 154, none, .pick (.tmp 150) (.tmp 153) (.const (.bool false)), []⟩, ⟨some 155, none, .move (.tmp 154), []⟩],
  .grp (some (some 155, true)) [⟨some 156, none, .faddr 1 (.tmp 8), []⟩, ⟨some 157, none, .load none (.tmp 156), []⟩, ⟨some 158, none, .faddr 3 (.tmp 13), []⟩, ⟨some 159, none, .load none (.tmp 158), []⟩, ⟨some 160, none, .bin .geq 3 (.tmp 157) (.tmp 159), []⟩],
  .grp none [⟨some 161, none, .pick (.tmp 155) (.tmp 160) (.const (.bool false)), []⟩, ⟨some 162, none, .move (.tmp 161), []⟩],
  .grp (some (some 162, true)) [⟨some 163, none, .faddr 3 (.tmp 13), []⟩, ⟨some 164, none, .load none (.tmp 163), []⟩, ⟨some 165, none, .bin .geq 3 (.tmp 164) (.const (.int .i64 0)), []⟩],
  .grp none [⟨some 166, none, .pick (.tmp 162) (.tmp 165) (.const (.bool false)), []⟩, ⟨some 167, none, .move (.tmp 166), []⟩],
  .grp (some (some 167, true)) [⟨some 168, none, .faddr 1 (.tmp 8), []⟩, ⟨some 169, none, .load none (.tmp 168), []⟩, ⟨some 170, none, .faddr 3 (.tmp 13), []⟩, ⟨some 171, none, .load none (.tmp 170), []⟩, ⟨some 172, none, .bin .sub 3 (.tmp 169) (.tmp 171), []⟩, ⟨some 173, none, .faddr 4 (.tmp 13), []⟩, ⟨some 174, none, .load none (.tmp 173), []⟩, ⟨some 175, none, .bin .lss 3 (.tmp 172) (.tmp 174), []⟩],
  .grp none [⟨some 176, none, .pick (.tmp 167) (.tmp 175) (.const (.bool false)), []⟩, ⟨some 177, none, .move (.tmp 176), []⟩],
  .grp (some (some 177, false)) [⟨some 178, none, .faddr 0 (.tmp 13), []⟩, ⟨some 179, none, .load none (.tmp 178), []⟩, ⟨some 180, none, .bin .eql 3 (.tmp 179) (.const (.int .i64 9)), []⟩, ⟨some 181, none, .move (.tmp 180), []⟩],
  .grp (some (some 181, true)) [⟨some 182, none, .faddr 2 (.tmp 13), []⟩, ⟨some 183, none, .load none (.tmp 182), []⟩, ⟨some 184, none, .faddr 0 (.tmp 8), []⟩, ⟨some 185, none, .load none (.tmp 184), []⟩, ⟨some 186, none, .bin .eql 3 (.tmp 183) (.tmp 185), []⟩],
  .grp (some (some 177, false)) [⟨some 187, none, .pick (.tmp 181) (.tmp 186) (.const (.bool false)), []⟩],
  .grp none [⟨some 188, none, .pick (.tmp 177) (.const (.bool true)) (.tmp 187), []⟩]]) 
 (.cond (.tmp 188) 
 (.seq (.ops [.grp none [⟨some 2, none, .move (.const (.bool false)), []⟩]]) .ret) .skip)))) (.ops [.grp none [⟨some 129, none, .move (.tmp 12), []⟩, ⟨some 130, none, .bin .add 3 (.tmp 129) (.const (.int .i64 1)), []⟩, ⟨some 12, none, .move (.tmp 130), []⟩]]))))))))))) 
 (.seq 
 (.seq (.ops [.grp none [⟨some 190, none, .bin .eql 3 (.tmp 43) (.const (.int .i64 5)), []⟩, ⟨some 189, none, .move (.tmp 190), []⟩]]) 
 (.cond (.tmp 189) .skip 
 (.seq (.ops [.grp none [⟨some 191, none, .bin .eql 3 (.tmp 43) (.const (.int .i64 6)), []⟩, ⟨some 189, none, .move (.tmp 191), []⟩]]) 
 (.cond (.tmp 189) .skip (.ops [.grp none [⟨some 192, none, .bin .eql 3 (.tmp 43) (.const (.int .i64 7)), []⟩, ⟨some 189, none, .move (.tmp 192), []⟩]]))))) 
 (.cond (.tmp 189) (.ops [.grp none [⟨some 193, none, .move (.tmp 3), []⟩, ⟨some 194, none, .faddr 2 (.tmp 7), []⟩, ⟨some 195, none, .load none (.tmp 194), []⟩, ⟨some 196, none, .faddr 3 (.tmp 7), []⟩, ⟨some 197, none, .load none (.tmp 196), []⟩, ⟨some 198, none, .faddr 4 (.tmp 7), []⟩, ⟨some 199, none, .load none (.tmp 198), []⟩, ⟨some 200, none, .call 31 #[.tmp 193, .tmp 195, .tmp 197, .tmp 199], []⟩]]) 
 (.seq (.ops [.grp none [⟨some 202, none, .bin .eql 3 (.tmp 43) (.const (.int .i64 8)), []⟩, ⟨some 201, none, .move (.tmp 202), []⟩]]) 
 (.cond (.tmp 201) (.ops [.grp none [⟨some 203, none, .move (.tmp 3), []⟩, ⟨some 204, none, .faddr 1 (.tmp 7), []⟩, ⟨some 205, none, .load none (.tmp 204), []⟩, ⟨some 206, none, .call 32 #[.tmp 203, .tmp 205], []⟩]]) 
 (.seq (.ops [.grp none [⟨some 208, none, .bin .eql 3 (.tmp 43) (.const (.int .i64 9)), []⟩, ⟨some 207, none, .move (.tmp 208), []⟩]]) 
 (.cond (.tmp 207) (.ops [.grp none [⟨some 209, none, .move (.tmp 3), []⟩, ⟨some 210, none, .faddr 2 (.tmp 7), []⟩, ⟨some 211, none, .load none (.tmp 210), []⟩, ⟨some 212, none, .call 33 #[.tmp 209, .tmp 211], []⟩]]) (.ops [.grp none [⟨some 44, none, .move (.tmp 3), []⟩, ⟨some 45, none, .faddr 1 (.tmp 7), []⟩, ⟨some 46, none, .load none (.tmp 45), []⟩, ⟨some 47, none, .faddr 4 (.tmp 7), []⟩, ⟨some 48, none, .load none (.tmp 47), []⟩, ⟨some 49, none, .call 34 #[.tmp 44, .tmp 46, .tmp 48], []⟩]]))))))))))))))) (.ops [.grp none [⟨some 36, none, .move (.tmp 6), []⟩, ⟨some 37, none, .bin .add 3 (.tmp 36) (.const (.int .i64 1)), []⟩, ⟨some 6, none, .move (.tmp 37), []⟩]])))))) 
 (.seq (.ops [.grp none [⟨some 2, none, .move (.const (.bool true)), []⟩]]) .ret)))))⟩
theorem low9 : lowG Try.prog 9 = some g9 := by kernel_rfl

def g10 : GFn :=
 ⟨100, [⟨4, none⟩], .seq (.ops [.grp none [⟨some 4, none, .move (.const (.bool false)), []⟩]]) 
 (.seq (.ops [.grp none [⟨some 15, none, .move (.tmp 0), []⟩, ⟨some 16, none, .call 35 #[.const (.int .i64 3), .const (.int .i64 5), .tmp 15], []⟩, ⟨some 14, none, .move (.tmp 16), []⟩, ⟨some 17, none, .extract (.tmp 14) 0, []⟩, ⟨some 18, none, .extract (.tmp 14) 1, []⟩, ⟨some 19, none, .extract (.tmp 14) 2, []⟩, ⟨some 5, none, .move (.tmp 17), []⟩, ⟨some 6, none, .move (.tmp 18), []⟩, ⟨some 7, none, .move (.tmp 19), []⟩]]) 
 (.seq 
 (.seq (.ops [.grp none [⟨some 20, none, .move (.tmp 7), []⟩, ⟨some 21, none, .un .not (.tmp 20), []⟩, ⟨some 22, none, .move (.tmp 21), []⟩],
  .grp (some (some 22, false)) [⟨some 23, none, .move (.tmp 5), []⟩, ⟨some 24, none, .bin .eql 57 (.tmp 23) (.const (.pointer none)), []⟩],
  .grp none [⟨some 25, none, .pick (.tmp 22) (.const (.bool true)) (.tmp 24), []⟩, ⟨some 26, none, .move (.tmp 25), []⟩],
  .grp (some (some 26, false)) [⟨some 27, none, .call 28 #[], []⟩, ⟨some 28, none, .un .not (.tmp 27), []⟩],
  .grp none [⟨some 29, none, .pick (.tmp 26) (.const (.bool true)) (.tmp 28), []⟩]]) 
 (.cond (.tmp 29) 
 (.seq (.ops [.grp none [⟨some 4, none, .move (.const (.bool false)), []⟩]]) .ret) .skip)) 
 (.seq (.ops [.grp none [⟨some 30, none, .move (.tmp 5), []⟩, ⟨some 31, none, .move (.tmp 1), []⟩, ⟨some 32, none, .call 36 #[.tmp 30, .tmp 31], []⟩, ⟨some 8, none, .move (.tmp 32), []⟩]]) 
 (.seq 
 (.seq (.ops [.grp none [⟨some 9, none, .move (.const (.int .i64 0)), []⟩]]) 
 (.block 0 
 (.loop 
 (.seq 
 (.seq (.ops [.grp none [⟨some 33, none, .move (.tmp 9), []⟩, ⟨some 34, none, .bin .lss 3 (.tmp 33) (.const (.int .i64 3)), []⟩]]) 
 (.cond (.tmp 34) .skip (.exit 0))) 
 (.seq 
 (.block 1 
 (.seq (.ops [.grp none [⟨some 37, none, .move (.tmp 5), []⟩, ⟨some 38, none, .move (.tmp 9), []⟩, ⟨some 39, none, .call 37 #[.tmp 37, .tmp 38], []⟩, ⟨some 10, none, .move (.tmp 39), []⟩]]) 
 (.seq 
 (.seq (.ops [.grp none [⟨some 11, none, .move (.const (.int .i64 0)), []⟩]]) 
 (.block 2 
 (.loop 
 (.seq 
 (.seq (.ops [.grp none [⟨some 40, none, .move (.tmp 11), []⟩, ⟨some 41, none, .move (.tmp 10), []⟩, ⟨some 42, none, .len (.tmp 41), []⟩, ⟨some 43, none, .bin .lss 3 (.tmp 40) (.tmp 42), []⟩]]) 
 (.cond (.tmp 43) .skip (.exit 2))) 
 (.seq 
 (.block 3 
 (.seq 
 (.seq (.ops [.grp none [⟨some 46, none, .move (.tmp 10), []⟩, ⟨some 47, none, .move (.tmp 11), []⟩, ⟨some 48, none, .iaddr 5 (.tmp 46) (.tmp 47), []⟩, ⟨some 49, none, .faddr 0 (.tmp 48), []⟩, ⟨some 50, none, .load none (.tmp 49), []⟩, ⟨some 51, none, .move (.tmp 1), []⟩, ⟨some 52, none, .bin .neq 3 (.tmp 50) (.tmp 51), []⟩]]) 
 (.cond (.tmp 52) (.exit 3) .skip)) 
 (.seq 
 (.seq (.ops [.grp none [⟨some 53, none, .move (.tmp 8), []⟩, ⟨some 54, none, .move (.tmp 53), []⟩],
  .grp (some (some 54, true)) [⟨some 55, none, .move (.tmp 5), []⟩, ⟨some 56, none, .move (.tmp 9), []⟩, ⟨some 57, none, .move (.tmp 1), []⟩, ⟨some 58, none, .call 38 #[.tmp 55, .tmp 56, .tmp 57], []⟩, ⟨some 59, none, .bin .neq 3 (.tmp 58) (.const (.int .i64 0)), []⟩],
  .grp none [⟨some 60, none, .pick (.tmp 54) (.tmp 59) (.const (.bool false)), []⟩]]) 
 (.cond (.tmp 60) 
 (.seq (.ops [.grp none [⟨some 4, none, .move (.const (.bool false)), []⟩]]) .ret) .skip)) 
 (.seq (.ops [.grp none [⟨some 62, none, .move (.tmp 5), []⟩, ⟨some 63, none, .move (.tmp 9), []⟩, ⟨some 64, none, .move (.tmp 1), []⟩, ⟨some 65, none, .move (.tmp 10), []⟩, ⟨some 66, none, .move (.tmp 11), []⟩, ⟨some 67, none, .iaddr 5 (.tmp 65) (.tmp 66), []⟩, ⟨some 68, none, .faddr 1 (.tmp 67), []⟩, ⟨some 69, none, .load none (.tmp 68), []⟩, ⟨some 70, none, .call 30 #[.tmp 62, .tmp 63, .tmp 64, .tmp 69], []⟩, ⟨some 61, none, .move (.tmp 70), []⟩, ⟨some 71, none, .extract (.tmp 61) 0, []⟩, ⟨some 72, none, .extract (.tmp 61) 1, []⟩, ⟨some 12, none, .zero 31 #[.int .i64 0, .int .i64 0, .int .i64 0, .int .i64 0, .bool false], []⟩, ⟨none, none, .store 5 (.tmp 12) (.tmp 71), []⟩, ⟨some 13, none, .move (.tmp 72), []⟩]]) 
 (.seq (.ops [.grp none [⟨some 73, none, .move (.tmp 8), []⟩, ⟨some 74, none, .move (.tmp 73), []⟩],
  .grp (some (some 74, true)) [⟨some 75, none, .move (.tmp 13), []⟩, ⟨some 76, none, .un .not (.tmp 75), []⟩, ⟨some 77, none, .move (.tmp 76), []⟩],
  .grp (some (some 77, false)) [⟨some 78, none, .load (some 5) (.tmp 12), []⟩, ⟨some 79, none, .move (.tmp 10), []⟩, ⟨some 80, none, .move (.tmp 11), []⟩, ⟨some 81, none, .iaddr 5 (.tmp 79) (.tmp 80), []⟩, ⟨some 82, none, .load (some 5) (.tmp 81), []⟩, ⟨some 83, none, .bin .neq 31 (.tmp 78) (.tmp 82), []⟩],
  .grp (some (some 74, true)) [⟨some 84, none, .pick (.tmp 77) (.const (.bool true)) (.tmp 83), []⟩],
  .grp none [⟨some 85, none, .pick (.tmp 74) (.tmp 84) (.const (.bool false)), []⟩]]) 
 (.cond (.tmp 85) 
 (.seq (.ops [.grp none [⟨some 4, none, .move (.const (.bool false)), []⟩]]) .ret) .skip)))))) (.ops [.grp none [⟨some 44, none, .move (.tmp 11), []⟩, ⟨some 45, none, .bin .add 3 (.tmp 44) (.const (.int .i64 1)), []⟩, ⟨some 11, none, .move (.tmp 45), []⟩]])))))) 
 (.seq (.ops [.grp none [⟨some 86, none, .move (.tmp 5), []⟩, ⟨some 87, none, .move (.tmp 9), []⟩, ⟨some 88, none, .call 32 #[.tmp 86, .tmp 87], []⟩]]) (.ops [.grp none [⟨some 89, none, .move (.tmp 6), []⟩, ⟨some 90, none, .move (.tmp 9), []⟩, ⟨some 91, none, .call 39 #[.tmp 89, .tmp 90], []⟩]]))))) (.ops [.grp none [⟨some 35, none, .move (.tmp 9), []⟩, ⟨some 36, none, .bin .add 3 (.tmp 35) (.const (.int .i64 1)), []⟩, ⟨some 9, none, .move (.tmp 36), []⟩]])))))) 
 (.seq (.ops [.grp none [⟨some 92, none, .move (.tmp 5), []⟩, ⟨some 93, none, .move (.tmp 1), []⟩, ⟨some 94, none, .call 36 #[.tmp 92, .tmp 93], []⟩, ⟨some 95, none, .move (.tmp 94), []⟩],
  .grp (some (some 95, true)) [⟨some 96, none, .move (.tmp 6), []⟩, ⟨some 97, none, .move (.tmp 1), []⟩, ⟨some 98, none, .call 40 #[.tmp 96, .tmp 97], []⟩],
  .grp none [⟨some 99, none, .pick (.tmp 95) (.tmp 98) (.const (.bool false)), []⟩, ⟨some 4, none, .move (.tmp 99), []⟩]]) .ret)))))⟩
theorem low10 : lowG Try.prog 10 = some g10 := by kernel_rfl

def g11 : GFn :=
 ⟨66, [⟨6, none⟩], .seq (.ops [.grp none [⟨some 6, none, .move (.const (.bool false)), []⟩]]) 
 (.seq (.ops [.grp none [⟨some 13, none, .move (.tmp 0), []⟩, ⟨some 14, none, .call 35 #[.const (.int .i64 3), .const (.int .i64 5), .tmp 13], []⟩, ⟨some 12, none, .move (.tmp 14), []⟩, ⟨some 15, none, .extract (.tmp 12) 0, []⟩, ⟨some 16, none, .extract (.tmp 12) 1, []⟩, ⟨some 17, none, .extract (.tmp 12) 2, []⟩, ⟨some 7, none, .move (.tmp 15), []⟩, ⟨some 8, none, .move (.tmp 16), []⟩, ⟨some 9, none, .move (.tmp 17), []⟩]]) 
 (.seq 
 (.seq (.ops [.grp none [⟨some 18, none, .move (.tmp 9), []⟩, ⟨some 19, none, .un .not (.tmp 18), []⟩, ⟨some 20, none, .move (.tmp 19), []⟩],
  .grp (some (some 20, false)) [⟨some 21, none, .move (.tmp 7), []⟩, ⟨some 22, none, .bin .eql 57 (.tmp 21) (.const (.pointer none)), []⟩],
  .grp none [⟨some 23, none, .pick (.tmp 20) (.const (.bool true)) (.tmp 22), []⟩, ⟨some 24, none, .move (.tmp 23), []⟩],
  .grp (some (some 24, false)) [⟨some 25, none, .call 28 #[], []⟩, ⟨some 26, none, .un .not (.tmp 25), []⟩],
  .grp none [⟨some 27, none, .pick (.tmp 24) (.const (.bool true)) (.tmp 26), []⟩]]) 
 (.cond (.tmp 27) 
 (.seq (.ops [.grp none [⟨some 6, none, .move (.const (.bool false)), []⟩]]) .ret) .skip)) 
 (.seq (.ops [.grp none [⟨some 28, none, .move (.tmp 1), []⟩, ⟨some 29, none, .bin .rem 5 (.tmp 28) (.const (.int .u8 3)), []⟩, ⟨some 30, none, .conv .i64 (.tmp 29), []⟩, ⟨some 10, none, .move (.tmp 30), []⟩]]) 
 (.seq 
 (.seq (.ops [.grp none [⟨some 31, none, .move (.tmp 7), []⟩, ⟨some 32, none, .move (.tmp 10), []⟩, ⟨some 33, none, .call 32 #[.tmp 31, .tmp 32], []⟩, ⟨some 34, none, .bin .neq 47 (.tmp 33) (.const (.int .i64 0)), []⟩, ⟨some 35, none, .move (.tmp 34), []⟩],
  .grp (some (some 35, false)) [⟨some 36, none, .move (.tmp 7), []⟩, ⟨some 37, none, .move (.tmp 10), []⟩, ⟨some 38, none, .move (.tmp 2), []⟩, ⟨some 39, none, .call 38 #[.tmp 36, .tmp 37, .tmp 38], []⟩, ⟨some 40, none, .bin .neq 3 (.tmp 39) (.const (.int .i64 0)), []⟩],
  .grp none [⟨some 41, none, .pick (.tmp 35) (.const (.bool true)) (.tmp 40), []⟩]]) 
 (.cond (.tmp 41) 
 (.seq (.ops [.grp none [⟨some 6, none, .move (.const (.bool false)), []⟩]]) .ret) .skip)) 
 (.seq (.ops [.grp none [⟨some 42, none, .move (.tmp 7), []⟩, ⟨some 43, none, .move (.tmp 10), []⟩, ⟨some 44, none, .call 37 #[.tmp 42, .tmp 43], []⟩, ⟨some 11, none, .move (.tmp 44), []⟩]]) 
 (.seq (.ops [.grp none [⟨some 45, none, .move (.tmp 7), []⟩, ⟨some 46, none, .move (.tmp 10), []⟩, ⟨some 47, none, .call 32 #[.tmp 45, .tmp 46], []⟩, ⟨some 48, none, .bin .eql 47 (.tmp 47) (.const (.int .i64 0)), []⟩, ⟨some 49, none, .move (.tmp 48), []⟩],
  .grp (some (some 49, true)) [⟨some 50, none, .move (.tmp 11), []⟩, ⟨some 51, none, .move (.tmp 7), []⟩, ⟨some 52, none, .move (.tmp 10), []⟩, ⟨some 53, none, .call 37 #[.tmp 51, .tmp 52], []⟩, ⟨some 54, none, .call 18 #[.tmp 50, .tmp 53], []⟩],
  .grp none [⟨some 55, none, .pick (.tmp 49) (.tmp 54) (.const (.bool false)), []⟩, ⟨some 56, none, .move (.tmp 55), []⟩],
  .grp (some (some 56, true)) [⟨some 57, none, .move (.tmp 7), []⟩, ⟨some 58, none, .call 32 #[.tmp 57, .const (.int .i64 3)], []⟩, ⟨some 59, none, .bin .eql 47 (.tmp 58) (.const (.int .i64 3)), []⟩],
  .grp none [⟨some 60, none, .pick (.tmp 56) (.tmp 59) (.const (.bool false)), []⟩, ⟨some 61, none, .move (.tmp 60), []⟩],
  .grp (some (some 61, true)) [⟨some 62, none, .move (.tmp 7), []⟩, ⟨some 63, none, .call 32 #[.tmp 62, .const (.int .i64 (-1))], []⟩, ⟨some 64, none, .bin .eql 47 (.tmp 63) (.const (.int .i64 3)), []⟩],
  .grp none [⟨some 65, none, .pick (.tmp 61) (.tmp 64) (.const (.bool false)), []⟩, ⟨some 6, none, .move (.tmp 65), []⟩]]) .ret))))))⟩
theorem low11 : lowG Try.prog 11 = some g11 := by kernel_rfl

def g12 : GFn :=
 ⟨87, [⟨6, none⟩], .seq (.ops [.grp none [⟨some 4, none, .box 62 (.tmp 1), []⟩, ⟨some 6, none, .move (.const (.bool false)), []⟩]]) 
 (.seq (.ops [.grp none [⟨some 14, none, .move (.tmp 0), []⟩, ⟨some 15, none, .call 35 #[.const (.int .i64 3), .const (.int .i64 5), .tmp 14], []⟩, ⟨some 13, none, .move (.tmp 15), []⟩, ⟨some 16, none, .extract (.tmp 13) 0, []⟩, ⟨some 17, none, .extract (.tmp 13) 1, []⟩, ⟨some 18, none, .extract (.tmp 13) 2, []⟩, ⟨some 7, none, .move (.tmp 16), []⟩, ⟨some 8, none, .move (.tmp 17), []⟩, ⟨some 9, none, .move (.tmp 18), []⟩]]) 
 (.seq 
 (.seq (.ops [.grp none [⟨some 19, none, .move (.tmp 9), []⟩, ⟨some 20, none, .un .not (.tmp 19), []⟩, ⟨some 21, none, .move (.tmp 20), []⟩],
  .grp (some (some 21, false)) [⟨some 22, none, .move (.tmp 7), []⟩, ⟨some 23, none, .bin .eql 57 (.tmp 22) (.const (.pointer none)), []⟩],
  .grp none [⟨some 24, none, .pick (.tmp 21) (.const (.bool true)) (.tmp 23), []⟩, ⟨some 25, none, .move (.tmp 24), []⟩],
  .grp (some (some 25, false)) [⟨some 26, none, .call 28 #[], []⟩, ⟨some 27, none, .un .not (.tmp 26), []⟩],
  .grp none [⟨some 28, none, .pick (.tmp 25) (.const (.bool true)) (.tmp 27), []⟩]]) 
 (.cond (.tmp 28) 
 (.seq (.ops [.grp none [⟨some 6, none, .move (.const (.bool false)), []⟩]]) .ret) .skip)) 
 (.seq (.ops [.grp none [⟨some 29, none, .move (.tmp 2), []⟩, ⟨some 30, none, .bin .rem 5 (.tmp 29) (.const (.int .u8 3)), []⟩, ⟨some 31, none, .conv .i64 (.tmp 30), []⟩, ⟨some 10, none, .move (.tmp 31), []⟩]]) 
 (.seq 
 (.seq (.ops [.grp none [⟨some 32, none, .faddr 1 (.tmp 4), []⟩, ⟨some 33, none, .load none (.tmp 32), []⟩, ⟨some 34, none, .move (.tmp 10), []⟩, ⟨some 35, none, .bin .eql 3 (.tmp 33) (.tmp 34), []⟩, ⟨some 36, none, .move (.tmp 35), []⟩],
  .grp (some (some 36, false)) [⟨some 37, none, .faddr 0 (.tmp 4), []⟩, ⟨some 38, none, .load none (.tmp 37), []⟩, ⟨some 39, none, .bin .eql 3 (.tmp 38) (.const (.int .i64 9)), []⟩],
  .grp none [⟨some 40, none, .pick (.tmp 36) (.const (.bool true)) (.tmp 39), []⟩]]) 
 (.cond (.tmp 40) 
 (.seq (.ops [.grp none [⟨some 6, none, .move (.const (.bool true)), []⟩]]) .ret) .skip)) 
 (.seq (.ops [.grp none [⟨some 41, none, .move (.tmp 7), []⟩, ⟨some 42, none, .move (.tmp 10), []⟩, ⟨some 44, none, .move (.tmp 7), []⟩, ⟨some 45, none, .move (.tmp 10), []⟩, ⟨some 46, none, .faddr 2 (.tmp 4), []⟩, ⟨some 47, none, .load none (.tmp 46), []⟩, ⟨some 43, none, .call 37 #[.tmp 41, .tmp 42], [⟨some 47, none, .load none (.tmp 46)⟩]⟩, ⟨some 48, none, .call 38 #[.tmp 44, .tmp 45, .tmp 47], []⟩, ⟨some 11, none, .move (.tmp 43), []⟩, ⟨some 12, none, .move (.tmp 48), []⟩]]) 
 (.seq (.ops [.grp none [⟨some 49, none, .move (.tmp 7), []⟩, ⟨some 50, none, .move (.tmp 8), []⟩, ⟨some 51, none, .load (some 10) (.tmp 4), []⟩, ⟨some 52, none, .call 41 #[.tmp 49, .tmp 50, .tmp 51], []⟩]]) 
 (.seq 
 (.seq (.ops [.grp none [⟨some 53, none, .faddr 0 (.tmp 4), []⟩, ⟨some 54, none, .load none (.tmp 53), []⟩, ⟨some 55, none, .bin .gtr 3 (.tmp 54) (.const (.int .i64 4)), []⟩, ⟨some 56, none, .move (.tmp 55), []⟩],
  .grp (some (some 56, true)) [⟨some 57, none, .faddr 0 (.tmp 4), []⟩, ⟨some 58, none, .load none (.tmp 57), []⟩, ⟨some 59, none, .bin .lss 3 (.tmp 58) (.const (.int .i64 8)), []⟩],
  .grp none [⟨some 60, none, .pick (.tmp 56) (.tmp 59) (.const (.bool false)), []⟩, ⟨some 61, none, .move (.tmp 60), []⟩],
  .grp (some (some 61, true)) [⟨some 62, none, .faddr 4 (.tmp 4), []⟩, ⟨some 63, none, .load none (.tmp 62), []⟩, ⟨some 64, none, .bin .gtr 3 (.tmp 63) (.const (.int .i64 0)), []⟩],
  .grp none [⟨some 65, none, .pick (.tmp 61) (.tmp 64) (.const (.bool false)), []⟩, ⟨some 66, none, .move (.tmp 65), []⟩],
  .grp (some (some 66, true)) [⟨some 67, none, .faddr 2 (.tmp 4), []⟩, ⟨some 68, none, .load none (.tmp 67), []⟩, ⟨some 69, none, .bin .geq 3 (.tmp 68) (.const (.int .i64 0)), []⟩],
  .grp none [⟨some 70, none, .pick (.tmp 66) (.tmp 69) (.const (.bool false)), []⟩]]) 
 (.cond (.tmp 70) (.ops [.grp none [⟨some 71, none, .move (.tmp 12), []⟩, ⟨some 72, none, .bin .add 3 (.tmp 71) (.const (.int .i64 1)), []⟩, ⟨some 12, none, .move (.tmp 72), []⟩]]) .skip)) 
 (.seq (.ops [.grp none [⟨some 73, none, .move (.tmp 11), []⟩, ⟨some 74, none, .move (.tmp 7), []⟩, ⟨some 75, none, .move (.tmp 10), []⟩, ⟨some 76, none, .call 37 #[.tmp 74, .tmp 75], []⟩, ⟨some 77, none, .call 18 #[.tmp 73, .tmp 76], []⟩, ⟨some 78, none, .move (.tmp 77), []⟩],
  .grp (some (some 78, true)) [⟨some 79, none, .move (.tmp 7), []⟩, ⟨some 80, none, .move (.tmp 10), []⟩, ⟨some 81, none, .faddr 2 (.tmp 4), []⟩, ⟨some 82, none, .load none (.tmp 81), []⟩, ⟨some 83, none, .call 38 #[.tmp 79, .tmp 80, .tmp 82], []⟩, ⟨some 84, none, .move (.tmp 12), []⟩, ⟨some 85, none, .bin .eql 3 (.tmp 83) (.tmp 84), []⟩],
  .grp none [⟨some 86, none, .pick (.tmp 78) (.tmp 85) (.const (.bool false)), []⟩, ⟨some 6, none, .move (.tmp 86), []⟩]]) .ret))))))))⟩
theorem low12 : lowG Try.prog 12 = some g12 := by kernel_rfl

def g27 : GFn :=
 ⟨44, [⟨4, none⟩, ⟨5, none⟩], .seq (.ops [.grp none [⟨some 4, none, .move (.const (.pointer none)), []⟩, ⟨some 5, none, .move (.const (.int .i64 0)), []⟩]]) 
 (.seq 
 (.seq (.ops [.grp none [⟨some 9, none, .move (.tmp 0), []⟩, ⟨some 10, none, .bin .lss 3 (.tmp 9) (.const (.int .i64 1)), []⟩, ⟨some 11, none, .move (.tmp 10), []⟩],
  .grp (some (some 11, false)) [⟨some 12, none, .move (.tmp 0), []⟩, ⟨some 13, none, .bin .gtr 3 (.tmp 12) (.const (.int .i64 8)), []⟩],
  .grp none [⟨some 14, none, .pick (.tmp 11) (.const (.bool true)) (.tmp 13), []⟩]]) 
 (.cond (.tmp 14) 
 (.seq (.ops [.grp none [⟨some 4, none, .move (.const (.pointer none)), []⟩, ⟨some 5, none, .move (.const (.int .i64 2)), []⟩]]) .ret) .skip)) 
 (.seq (.ops [.grp none [⟨some 15, none, .makeMap, []⟩, ⟨some 16, none, .build #[(0, 1), (1, 1)] #[.slice none 0 0, .map none] [(1, .tmp 15)], []⟩, ⟨some 17, none, .box 94 (.tmp 16), []⟩, ⟨some 6, none, .move (.tmp 17), []⟩]]) 
 (.seq 
 (.seq (.ops [.grp none [⟨some 18, none, .move (.tmp 0), []⟩, ⟨some 19, none, .move (.const (.int .i64 0)), []⟩]]) 
 (.block 0 
 (.loop 
 (.seq (.ops [.grp none [⟨some 20, none, .bin .lss 3 (.tmp 19) (.tmp 18), []⟩]]) 
 (.seq 
 (.cond (.tmp 20) .skip (.exit 0)) 
 (.seq 
 (.block 1 
 (.seq (.ops [.grp none [⟨some 22, none, .move (.tmp 1), []⟩, ⟨some 23, none, .call 43 #[.tmp 22], []⟩, ⟨some 21, none, .move (.tmp 23), []⟩, ⟨some 24, none, .extract (.tmp 21) 0, []⟩, ⟨some 25, none, .extract (.tmp 21) 1, []⟩, ⟨some 7, none, .move (.tmp 24), []⟩, ⟨some 8, none, .move (.tmp 25), []⟩]]) 
 (.seq 
 (.seq (.ops [.grp none [⟨some 26, none, .move (.tmp 8), []⟩, ⟨some 27, none, .bin .neq 47 (.tmp 26) (.const (.int .i64 0)), []⟩]]) 
 (.cond (.tmp 27) 
 (.seq (.ops [.grp none [⟨some 28, none, .move (.tmp 8), []⟩, ⟨some 4, none, .move (.const (.pointer none)), []⟩, ⟨some 5, none, .move (.tmp 28), []⟩]]) .ret) .skip)) (.ops [.grp none [⟨some 29, none, .move (.tmp 6), []⟩, ⟨some 30, none, .move (.tmp 6), []⟩, ⟨some 31, none, .nonnil (.tmp 30), []⟩, ⟨some 32, none, .faddr 0 (.tmp 31), []⟩, ⟨some 33, none, .load none (.tmp 32), []⟩, ⟨some 34, none, .move (.tmp 7), []⟩, ⟨some 35, none, .makeMap, []⟩, ⟨some 36, none, .build #[(0, 1), (1, 1)] #[.pointer none, .map none] [(0, .tmp 34), (1, .tmp 35)], []⟩, ⟨some 37, none, .box 98 (.tmp 36), []⟩, ⟨some 38, none, .row 95 1 1 #[.pointer none] [(0, .tmp 37)], []⟩, ⟨some 39, none, .append 95 1 8 (.tmp 33) (.tmp 38), []⟩, ⟨some 40, none, .nonnil (.tmp 29), []⟩, ⟨some 41, none, .faddr 0 (.tmp 40), []⟩, ⟨none, none, .store 1 (.tmp 41) (.tmp 39), []⟩]])))) (.ops [.grp none [⟨some 42, none, .bin .add 3 (.tmp 19) (.const (.int .i64 1)), []⟩, ⟨some 19, none, .move (.tmp 42), []⟩]]))))))) 
 (.seq (.ops [.grp none [⟨some 43, none, .move (.tmp 6), []⟩, ⟨some 4, none, .move (.tmp 43), []⟩, ⟨some 5, none, .move (.const (.int .i64 0)), []⟩]]) .ret))))⟩
theorem low27 : lowG Try.prog 27 = some g27 := by kernel_rfl

def g29 : GFn :=
 ⟨29, [⟨6, none⟩], .seq (.ops [.grp none [⟨some 5, none, .box 31 (.tmp 2), []⟩, ⟨some 6, none, .move (.const (.int .i64 0)), []⟩]]) 
 (.seq (.ops [.grp none [⟨some 10, none, .move (.tmp 0), []⟩, ⟨some 11, none, .move (.tmp 1), []⟩, ⟨some 12, none, .call 50 #[.tmp 10, .tmp 11], []⟩, ⟨some 9, none, .move (.tmp 12), []⟩, ⟨some 13, none, .extract (.tmp 9) 0, []⟩, ⟨some 14, none, .extract (.tmp 9) 1, []⟩, ⟨some 7, none, .move (.tmp 13), []⟩, ⟨some 8, none, .move (.tmp 14), []⟩]]) 
 (.seq 
 (.seq (.ops [.grp none [⟨some 15, none, .move (.tmp 8), []⟩, ⟨some 16, none, .bin .neq 47 (.tmp 15) (.const (.int .i64 0)), []⟩]]) 
 (.cond (.tmp 16) 
 (.seq (.ops [.grp none [⟨some 17, none, .move (.tmp 8), []⟩, ⟨some 6, none, .move (.tmp 17), []⟩]]) .ret) .skip)) 
 (.seq (.ops [.grp none [⟨some 18, none, .move (.tmp 0), []⟩, ⟨some 19, none, .move (.tmp 7), []⟩, ⟨some 20, none, .faddr 0 (.tmp 5), []⟩, ⟨some 21, none, .load none (.tmp 20), []⟩, ⟨some 22, none, .call 51 #[.tmp 18, .tmp 19, .tmp 21], []⟩]]) 
 (.seq (.ops [.grp none [⟨some 23, none, .move (.tmp 7), []⟩, ⟨some 24, none, .nonnil (.tmp 23), []⟩, ⟨some 25, none, .faddr 0 (.tmp 24), []⟩, ⟨some 26, none, .load none (.tmp 25), []⟩, ⟨some 27, none, .load (some 5) (.tmp 5), []⟩, ⟨some 28, none, .call 24 #[.tmp 26, .tmp 27], []⟩, ⟨some 6, none, .move (.tmp 28), []⟩]]) .ret))))⟩
theorem low29 : lowG Try.prog 29 = some g29 := by kernel_rfl

def g30 : GFn :=
 ⟨34, [⟨8, some (some 5)⟩, ⟨9, none⟩], .seq (.ops [.grp none [⟨some 8, none, .zero 31 #[.int .i64 0, .int .i64 0, .int .i64 0, .int .i64 0, .bool false], []⟩, ⟨some 9, none, .move (.const (.bool false)), []⟩]]) 
 (.seq (.ops [.grp none [⟨some 13, none, .move (.tmp 0), []⟩, ⟨some 14, none, .move (.tmp 1), []⟩, ⟨some 15, none, .call 50 #[.tmp 13, .tmp 14], []⟩, ⟨some 12, none, .move (.tmp 15), []⟩, ⟨some 16, none, .extract (.tmp 12) 0, []⟩, ⟨some 17, none, .extract (.tmp 12) 1, []⟩, ⟨some 10, none, .move (.tmp 16), []⟩, ⟨some 11, none, .move (.tmp 17), []⟩]]) 
 (.seq 
 (.seq (.ops [.grp none [⟨some 18, none, .move (.tmp 11), []⟩, ⟨some 19, none, .bin .neq 47 (.tmp 18) (.const (.int .i64 0)), []⟩]]) 
 (.cond (.tmp 19) 
 (.seq (.ops [.grp none [⟨some 20, none, .build #[(0, 1), (1, 1), (2, 1), (3, 1), (4, 1)] #[.int .i64 0, .int .i64 0, .int .i64 0, .int .i64 0, .bool false] [], []⟩, ⟨none, none, .store 5 (.tmp 8) (.tmp 20), []⟩, ⟨some 9, none, .move (.const (.bool false)), []⟩]]) .ret) .skip)) 
 (.seq (.ops [.grp none [⟨some 21, none, .move (.tmp 0), []⟩, ⟨some 22, none, .move (.tmp 10), []⟩, ⟨some 23, none, .move (.tmp 2), []⟩, ⟨some 24, none, .call 51 #[.tmp 21, .tmp 22, .tmp 23], []⟩]]) 
 (.seq (.ops [.grp none [⟨some 25, none, .move (.tmp 10), []⟩, ⟨some 26, none, .nonnil (.tmp 25), []⟩, ⟨some 27, none, .faddr 0 (.tmp 26), []⟩, ⟨some 28, none, .load none (.tmp 27), []⟩, ⟨some 29, none, .move (.tmp 2), []⟩, ⟨some 30, none, .move (.tmp 3), []⟩, ⟨some 31, none, .call 16 #[.tmp 28, .tmp 29, .tmp 30], []⟩, ⟨some 32, none, .extract (.tmp 31) 0, []⟩, ⟨some 33, none, .extract (.tmp 31) 1, []⟩, ⟨none, none, .store 5 (.tmp 8) (.tmp 32), []⟩, ⟨some 9, none, .move (.tmp 33), []⟩]]) .ret))))⟩
theorem low30 : lowG Try.prog 30 = some g30 := by kernel_rfl

def g31 : GFn :=
 ⟨70, [], .seq 
 (.seq (.ops [.grp none [⟨some 9, none, .move (.tmp 0), []⟩, ⟨some 10, none, .bin .eql 57 (.tmp 9) (.const (.pointer none)), []⟩, ⟨some 11, none, .move (.tmp 10), []⟩],
  .grp (some (some 11, false)) [⟨some 12, none, .move (.tmp 3), []⟩, ⟨some 13, none, .bin .lss 3 (.tmp 12) (.const (.int .i64 1)), []⟩],
  .grp none [⟨some 14, none, .pick (.tmp 11) (.const (.bool true)) (.tmp 13), []⟩, ⟨some 15, none, .move (.tmp 14), []⟩],
  .grp (some (some 15, false)) [⟨some 16, none, .move (.tmp 1), []⟩, ⟨some 17, none, .bin .lss 3 (.tmp 16) (.const (.int .i64 0)), []⟩],
  .grp none [⟨some 18, none, .pick (.tmp 15) (.const (.bool true)) (.tmp 17), []⟩]]) 
 (.cond (.tmp 18) .ret .skip)) 
 (.seq (.ops [.grp none [⟨some 19, none, .move (.tmp 0), []⟩, ⟨some 20, none, .nonnil (.tmp 19), []⟩, ⟨some 21, none, .faddr 1 (.tmp 20), []⟩, ⟨some 22, none, .load none (.tmp 21), []⟩, ⟨some 23, none, .move (.tmp 1), []⟩, ⟨some 24, none, .lookup .i64 (.pointer none) (.tmp 22) (.tmp 23) false, []⟩, ⟨some 8, none, .move (.tmp 24), []⟩]]) 
 (.seq 
 (.seq (.ops [.grp none [⟨some 25, none, .move (.tmp 8), []⟩, ⟨some 26, none, .bin .eql 102 (.tmp 25) (.const (.pointer none)), []⟩]]) 
 (.cond (.tmp 26) 
 (.seq (.ops [.grp none [⟨some 27, none, .build #[(0, 1), (1, 1)] #[.int .i64 0, .slice none 0 0] [], []⟩, ⟨some 28, none, .box 105 (.tmp 27), []⟩, ⟨some 8, none, .move (.tmp 28), []⟩]]) (.ops [.grp none [⟨some 29, none, .move (.tmp 0), []⟩, ⟨some 30, none, .nonnil (.tmp 29), []⟩, ⟨some 31, none, .faddr 1 (.tmp 30), []⟩, ⟨some 32, none, .load none (.tmp 31), []⟩, ⟨some 33, none, .move (.tmp 1), []⟩, ⟨some 34, none, .move (.tmp 8), []⟩, ⟨none, none, .update .i64 (.tmp 32) (.tmp 33) (.tmp 34), []⟩]])) .skip)) 
 (.seq (.ops [.grp none [⟨some 35, none, .move (.tmp 8), []⟩, ⟨some 36, none, .nonnil (.tmp 35), []⟩, ⟨some 37, none, .faddr 0 (.tmp 36), []⟩, ⟨some 38, none, .load none (.tmp 37), []⟩, ⟨some 39, none, .bin .add 3 (.tmp 38) (.const (.int .i64 1)), []⟩, ⟨some 40, none, .nonnil (.tmp 35), []⟩, ⟨some 41, none, .faddr 0 (.tmp 40), []⟩, ⟨none, none, .store 1 (.tmp 41) (.tmp 39), []⟩]]) 
 (.seq (.ops [.grp none [⟨some 42, none, .move (.tmp 8), []⟩, ⟨some 43, none, .move (.tmp 8), []⟩, ⟨some 44, none, .nonnil (.tmp 43), []⟩, ⟨some 45, none, .faddr 1 (.tmp 44), []⟩, ⟨some 46, none, .load none (.tmp 45), []⟩, ⟨some 47, none, .move (.tmp 2), []⟩, ⟨some 48, none, .move (.tmp 3), []⟩, ⟨some 49, none, .build #[(0, 1), (1, 1)] #[.int .i64 0, .int .i64 0] [(0, .tmp 47), (1, .tmp 48)], []⟩, ⟨some 50, none, .row 107 2 1 #[.int .i64 0, .int .i64 0] [(0, .tmp 49)], []⟩, ⟨some 51, none, .append 107 2 16 (.tmp 46) (.tmp 50), []⟩, ⟨some 52, none, .nonnil (.tmp 42), []⟩, ⟨some 53, none, .faddr 1 (.tmp 52), []⟩, ⟨none, none, .store 1 (.tmp 53) (.tmp 51), []⟩]]) 
 (.seq (.ops [.grp none [⟨some 54, none, .move (.tmp 8), []⟩, ⟨some 55, none, .nonnil (.tmp 54), []⟩, ⟨some 56, none, .faddr 1 (.tmp 55), []⟩, ⟨some 57, none, .load none (.tmp 56), []⟩, ⟨some 58, none, .len (.tmp 57), []⟩, ⟨some 59, none, .bin .gtr 3 (.tmp 58) (.const (.int .i64 8)), []⟩]]) 
 (.cond (.tmp 59) (.ops [.grp none [⟨some 60, none, .move (.tmp 8), []⟩, ⟨some 61, none, .row 107 2 0 #[] [], []⟩, ⟨some 62, none, .move (.tmp 8), []⟩, ⟨some 63, none, .nonnil (.tmp 62), []⟩, ⟨some 64, none, .faddr 1 (.tmp 63), []⟩, ⟨some 65, none, .load none (.tmp 64), []⟩, ⟨some 66, none, .slice 107 2 (.tmp 65) (some (.const (.int .i64 1))) none none, []⟩, ⟨some 67, none, .append 107 2 16 (.tmp 61) (.tmp 66), []⟩, ⟨some 68, none, .nonnil (.tmp 60), []⟩, ⟨some 69, none, .faddr 1 (.tmp 68), []⟩, ⟨none, none, .store 1 (.tmp 69) (.tmp 67), []⟩]]) .skip))))))⟩
theorem low31 : lowG Try.prog 31 = some g31 := by kernel_rfl

def g32 : GFn :=
 ⟨30, [⟨4, none⟩], .seq (.ops [.grp none [⟨some 4, none, .move (.const (.int .i64 0)), []⟩]]) 
 (.seq (.ops [.grp none [⟨some 9, none, .move (.tmp 0), []⟩, ⟨some 10, none, .move (.tmp 1), []⟩, ⟨some 11, none, .call 50 #[.tmp 9, .tmp 10], []⟩, ⟨some 8, none, .move (.tmp 11), []⟩, ⟨some 12, none, .extract (.tmp 8) 0, []⟩, ⟨some 13, none, .extract (.tmp 8) 1, []⟩, ⟨some 5, none, .move (.tmp 12), []⟩, ⟨some 6, none, .move (.tmp 13), []⟩]]) 
 (.seq 
 (.seq (.ops [.grp none [⟨some 14, none, .move (.tmp 6), []⟩, ⟨some 15, none, .bin .neq 47 (.tmp 14) (.const (.int .i64 0)), []⟩]]) 
 (.cond (.tmp 15) 
 (.seq (.ops [.grp none [⟨some 16, none, .move (.tmp 6), []⟩, ⟨some 4, none, .move (.tmp 16), []⟩]]) .ret) .skip)) 
 (.seq 
 (.seq (.ops [.grp none [⟨some 17, none, .move (.tmp 0), []⟩, ⟨some 18, none, .nonnil (.tmp 17), []⟩, ⟨some 19, none, .faddr 1 (.tmp 18), []⟩, ⟨some 20, none, .load none (.tmp 19), []⟩, ⟨some 21, none, .raw (Op.range 91 (.tmp 20)) 0, []⟩]]) 
 (.block 0 
 (.loop 
 (.seq (.ops [.grp none [⟨some 22, none, .raw (Op.next (.tmp 21) false) 0, []⟩, ⟨some 23, none, .extract (.tmp 22) 0, []⟩]]) 
 (.seq 
 (.cond (.tmp 23) .skip (.exit 0)) 
 (.block 1 
 (.seq (.ops [.grp none [⟨some 24, none, .raw (Op.entry (.tmp 21)) 0, []⟩, ⟨some 25, none, .extract (.tmp 24) 0, []⟩, ⟨some 7, none, .move (.tmp 25), []⟩]]) (.ops [.grp none [⟨some 26, none, .move (.tmp 0), []⟩, ⟨some 27, none, .move (.tmp 5), []⟩, ⟨some 28, none, .move (.tmp 7), []⟩, ⟨some 29, none, .call 51 #[.tmp 26, .tmp 27, .tmp 28], []⟩]])))))))) 
 (.seq (.ops [.grp none [⟨some 4, none, .move (.const (.int .i64 0)), []⟩]]) .ret))))⟩
theorem low32 : lowG Try.prog 32 = some g32 := by kernel_rfl

def g33 : GFn :=
 ⟨32, [], .seq 
 (.seq (.ops [.grp none [⟨some 6, none, .move (.tmp 0), []⟩, ⟨some 7, none, .bin .eql 57 (.tmp 6) (.const (.pointer none)), []⟩]]) 
 (.cond (.tmp 7) .ret .skip)) 
 (.seq (.ops [.grp none [⟨some 8, none, .move (.tmp 0), []⟩, ⟨some 9, none, .nonnil (.tmp 8), []⟩, ⟨some 10, none, .faddr 0 (.tmp 9), []⟩, ⟨some 11, none, .load none (.tmp 10), []⟩, ⟨some 12, none, .len (.tmp 11), []⟩, ⟨some 13, none, .move (.const (.int .i64 0)), []⟩]]) 
 (.block 0 
 (.loop 
 (.seq (.ops [.grp none [⟨some 14, none, .bin .lss 3 (.tmp 13) (.tmp 12), []⟩]]) 
 (.seq 
 (.cond (.tmp 14) .skip (.exit 0)) 
 (.seq 
 (.block 1 
 (.seq (.ops [.grp none [⟨some 15, none, .iaddr 1 (.tmp 11) (.tmp 13), []⟩, ⟨some 16, none, .load none (.tmp 15), []⟩, ⟨some 5, none, .move (.tmp 16), []⟩]]) 
 (.seq (.ops [.grp none [⟨some 17, none, .move (.tmp 5), []⟩, ⟨some 18, none, .nonnil (.tmp 17), []⟩, ⟨some 19, none, .faddr 0 (.tmp 18), []⟩, ⟨some 20, none, .load none (.tmp 19), []⟩, ⟨some 21, none, .move (.tmp 1), []⟩, ⟨some 22, none, .call 26 #[.tmp 20, .tmp 21], []⟩]]) (.ops [.grp none [⟨some 23, none, .move (.tmp 5), []⟩, ⟨some 24, none, .nonnil (.tmp 23), []⟩, ⟨some 25, none, .faddr 1 (.tmp 24), []⟩, ⟨some 26, none, .load none (.tmp 25), []⟩, ⟨some 27, none, .move (.tmp 1), []⟩, ⟨some 28, none, .move (.tmp 0), []⟩, ⟨some 29, none, .move (.tmp 1), []⟩, ⟨some 30, none, .call 52 #[.tmp 28, .tmp 29], [⟨some 26, none, .load none (.tmp 25)⟩]⟩, ⟨none, none, .update .i64 (.tmp 26) (.tmp 27) (.tmp 30), []⟩]])))) (.ops [.grp none [⟨some 31, none, .bin .add 3 (.tmp 13) (.const (.int .i64 1)), []⟩, ⟨some 13, none, .move (.tmp 31), []⟩]])))))))⟩
theorem low33 : lowG Try.prog 33 = some g33 := by kernel_rfl

def g34 : GFn :=
 ⟨24, [⟨6, none⟩], .seq (.ops [.grp none [⟨some 6, none, .move (.const (.int .i64 0)), []⟩]]) 
 (.seq (.ops [.grp none [⟨some 10, none, .move (.tmp 0), []⟩, ⟨some 11, none, .move (.tmp 1), []⟩, ⟨some 12, none, .call 50 #[.tmp 10, .tmp 11], []⟩, ⟨some 9, none, .move (.tmp 12), []⟩, ⟨some 13, none, .extract (.tmp 9) 0, []⟩, ⟨some 14, none, .extract (.tmp 9) 1, []⟩, ⟨some 7, none, .move (.tmp 13), []⟩, ⟨some 8, none, .move (.tmp 14), []⟩]]) 
 (.seq 
 (.seq (.ops [.grp none [⟨some 15, none, .move (.tmp 8), []⟩, ⟨some 16, none, .bin .neq 47 (.tmp 15) (.const (.int .i64 0)), []⟩]]) 
 (.cond (.tmp 16) 
 (.seq (.ops [.grp none [⟨some 17, none, .move (.tmp 8), []⟩, ⟨some 6, none, .move (.tmp 17), []⟩]]) .ret) .skip)) 
 (.seq (.ops [.grp none [⟨some 18, none, .move (.tmp 7), []⟩, ⟨some 19, none, .nonnil (.tmp 18), []⟩, ⟨some 20, none, .faddr 0 (.tmp 19), []⟩, ⟨some 21, none, .load none (.tmp 20), []⟩, ⟨some 22, none, .move (.tmp 2), []⟩, ⟨some 23, none, .call 25 #[.tmp 21, .tmp 22], []⟩, ⟨some 6, none, .move (.tmp 23), []⟩]]) .ret)))⟩
theorem low34 : lowG Try.prog 34 = some g34 := by kernel_rfl

def g35 : GFn :=
 ⟨60, [⟨6, none⟩, ⟨7, none⟩, ⟨8, none⟩], .seq (.ops [.grp none [⟨some 6, none, .move (.const (.pointer none)), []⟩, ⟨some 7, none, .move (.const (.pointer none)), []⟩, ⟨some 8, none, .move (.const (.bool false)), []⟩]]) 
 (.seq (.ops [.grp none [⟨some 15, none, .move (.tmp 0), []⟩, ⟨some 16, none, .move (.tmp 1), []⟩, ⟨some 17, none, .call 27 #[.tmp 15, .tmp 16], []⟩, ⟨some 14, none, .move (.tmp 17), []⟩, ⟨some 18, none, .extract (.tmp 14) 0, []⟩, ⟨some 19, none, .extract (.tmp 14) 1, []⟩, ⟨some 9, none, .move (.tmp 18), []⟩, ⟨some 10, none, .move (.tmp 19), []⟩]]) 
 (.seq (.ops [.grp none [⟨some 21, none, .move (.tmp 0), []⟩, ⟨some 22, none, .move (.tmp 1), []⟩, ⟨some 23, none, .call 53 #[.tmp 21, .tmp 22], []⟩, ⟨some 20, none, .move (.tmp 23), []⟩, ⟨some 24, none, .extract (.tmp 20) 0, []⟩, ⟨some 25, none, .extract (.tmp 20) 1, []⟩, ⟨some 11, none, .move (.tmp 24), []⟩, ⟨some 12, none, .move (.tmp 25), []⟩]]) 
 (.seq 
 (.seq (.ops [.grp none [⟨some 26, none, .move (.tmp 10), []⟩, ⟨some 27, none, .move (.tmp 12), []⟩, ⟨some 28, none, .bin .neq 47 (.tmp 26) (.tmp 27), []⟩, ⟨some 29, none, .move (.tmp 28), []⟩],
  .grp (some (some 29, false)) [⟨some 30, none, .move (.tmp 9), []⟩, ⟨some 31, none, .bin .eql 57 (.tmp 30) (.const (.pointer none)), []⟩, ⟨some 32, none, .move (.tmp 11), []⟩, ⟨some 33, none, .bin .eql 71 (.tmp 32) (.const (.pointer none)), []⟩, ⟨some 34, none, .bin .neq 4 (.tmp 31) (.tmp 33), []⟩],
  .grp none [⟨some 35, none, .pick (.tmp 29) (.const (.bool true)) (.tmp 34), []⟩]]) 
 (.cond (.tmp 35) 
 (.seq (.ops [.grp none [⟨some 6, none, .move (.const (.pointer none)), []⟩, ⟨some 7, none, .move (.const (.pointer none)), []⟩, ⟨some 8, none, .move (.const (.bool false)), []⟩]]) .ret) .skip)) 
 (.seq 
 (.seq (.ops [.grp none [⟨some 13, none, .move (.const (.int .i64 0)), []⟩]]) 
 (.block 0 
 (.loop 
 (.seq 
 (.seq (.ops [.grp none [⟨some 36, none, .move (.tmp 11), []⟩, ⟨some 37, none, .bin .neq 71 (.tmp 36) (.const (.pointer none)), []⟩, ⟨some 38, none, .move (.tmp 37), []⟩],
  .grp (some (some 38, true)) [⟨some 39, none, .move (.tmp 13), []⟩, ⟨some 40, none, .move (.tmp 2), []⟩, ⟨some 41, none, .len (.tmp 40), []⟩, ⟨some 42, none, .bin .lss 3 (.tmp 39) (.tmp 41), []⟩],
  .grp none [⟨some 43, none, .pick (.tmp 38) (.tmp 42) (.const (.bool false)), []⟩, ⟨some 44, none, .move (.tmp 43), []⟩],
  .grp (some (some 44, true)) [⟨some 45, none, .move (.tmp 13), []⟩, ⟨some 46, none, .bin .lss 3 (.tmp 45) (.const (.int .i64 60)), []⟩],
  .grp none [⟨some 47, none, .pick (.tmp 44) (.tmp 46) (.const (.bool false)), []⟩]]) 
 (.cond (.tmp 47) .skip (.exit 0))) 
 (.seq 
 (.block 1 
 (.seq (.ops [.grp none [⟨some 50, none, .move (.tmp 9), []⟩, ⟨some 51, none, .move (.tmp 11), []⟩, ⟨some 52, none, .move (.tmp 2), []⟩, ⟨some 53, none, .move (.tmp 13), []⟩, ⟨some 54, none, .iaddr 10 (.tmp 52) (.tmp 53), []⟩, ⟨some 55, none, .load (some 10) (.tmp 54), []⟩, ⟨some 56, none, .call 41 #[.tmp 50, .tmp 51, .tmp 55], []⟩, ⟨some 57, none, .un .not (.tmp 56), []⟩]]) 
 (.cond (.tmp 57) 
 (.seq (.ops [.grp none [⟨some 6, none, .move (.const (.pointer none)), []⟩, ⟨some 7, none, .move (.const (.pointer none)), []⟩, ⟨some 8, none, .move (.const (.bool false)), []⟩]]) .ret) .skip))) (.ops [.grp none [⟨some 48, none, .move (.tmp 13), []⟩, ⟨some 49, none, .bin .add 3 (.tmp 48) (.const (.int .i64 1)), []⟩, ⟨some 13, none, .move (.tmp 49), []⟩]])))))) 
 (.seq (.ops [.grp none [⟨some 58, none, .move (.tmp 9), []⟩, ⟨some 59, none, .move (.tmp 11), []⟩, ⟨some 6, none, .move (.tmp 58), []⟩, ⟨some 7, none, .move (.tmp 59), []⟩, ⟨some 8, none, .move (.const (.bool true)), []⟩]]) .ret)))))⟩
theorem low35 : lowG Try.prog 35 = some g35 := by kernel_rfl

def g36 : GFn :=
 ⟨46, [⟨4, none⟩], .seq (.ops [.grp none [⟨some 4, none, .move (.const (.bool false)), []⟩]]) 
 (.seq 
 (.seq (.ops [.grp none [⟨some 9, none, .move (.tmp 0), []⟩, ⟨some 10, none, .bin .eql 57 (.tmp 9) (.const (.pointer none)), []⟩]]) 
 (.cond (.tmp 10) 
 (.seq (.ops [.grp none [⟨some 4, none, .move (.const (.bool true)), []⟩]]) .ret) .skip)) 
 (.seq 
 (.seq (.ops [.grp none [⟨some 11, none, .move (.tmp 0), []⟩, ⟨some 12, none, .nonnil (.tmp 11), []⟩, ⟨some 13, none, .faddr 0 (.tmp 12), []⟩, ⟨some 14, none, .load none (.tmp 13), []⟩, ⟨some 15, none, .len (.tmp 14), []⟩, ⟨some 16, none, .move (.const (.int .i64 0)), []⟩]]) 
 (.block 0 
 (.loop 
 (.seq (.ops [.grp none [⟨some 17, none, .bin .lss 3 (.tmp 16) (.tmp 15), []⟩]]) 
 (.seq 
 (.cond (.tmp 17) .skip (.exit 0)) 
 (.seq 
 (.block 1 
 (.seq (.ops [.grp none [⟨some 18, none, .iaddr 1 (.tmp 14) (.tmp 16), []⟩, ⟨some 19, none, .load none (.tmp 18), []⟩, ⟨some 6, none, .move (.tmp 19), []⟩]]) 
 (.seq 
 (.seq (.ops [.grp none [⟨some 20, none, .move (.tmp 6), []⟩, ⟨some 21, none, .nonnil (.tmp 20), []⟩, ⟨some 22, none, .faddr 1 (.tmp 21), []⟩, ⟨some 23, none, .load none (.tmp 22), []⟩, ⟨some 24, none, .move (.tmp 1), []⟩, ⟨some 25, none, .lookup .i64 (.int .i64 0) (.tmp 23) (.tmp 24) false, []⟩, ⟨some 26, none, .move (.tmp 0), []⟩, ⟨some 27, none, .move (.tmp 1), []⟩, ⟨some 28, none, .call 52 #[.tmp 26, .tmp 27], [⟨some 25, none, .lookup .i64 (.int .i64 0) (.tmp 23) (.tmp 24) false⟩, ⟨some 23, none, .load none (.tmp 22)⟩]⟩, ⟨some 29, none, .bin .eql 3 (.tmp 25) (.tmp 28), []⟩]]) 
 (.cond (.tmp 29) (.exit 1) .skip)) 
 (.seq (.ops [.grp none [⟨some 30, none, .move (.tmp 6), []⟩, ⟨some 31, none, .nonnil (.tmp 30), []⟩, ⟨some 32, none, .faddr 0 (.tmp 31), []⟩, ⟨some 33, none, .load none (.tmp 32), []⟩, ⟨some 34, none, .call 19 #[.tmp 33], []⟩, ⟨some 35, none, .len (.tmp 34), []⟩, ⟨some 36, none, .move (.const (.int .i64 0)), []⟩]]) 
 (.block 2 
 (.loop 
 (.seq (.ops [.grp none [⟨some 37, none, .bin .lss 3 (.tmp 36) (.tmp 35), []⟩]]) 
 (.seq 
 (.cond (.tmp 37) .skip (.exit 2)) 
 (.seq 
 (.block 3 
 (.seq (.ops [.grp none [⟨some 38, none, .iaddr 5 (.tmp 34) (.tmp 36), []⟩, ⟨some 39, none, .load (some 5) (.tmp 38), []⟩, ⟨some 8, none, .zero 31 #[.int .i64 0, .int .i64 0, .int .i64 0, .int .i64 0, .bool false], []⟩, ⟨none, none, .store 5 (.tmp 8) (.tmp 39), []⟩]]) 
 (.seq (.ops [.grp none [⟨some 40, none, .faddr 0 (.tmp 8), []⟩, ⟨some 41, none, .load none (.tmp 40), []⟩, ⟨some 42, none, .move (.tmp 1), []⟩, ⟨some 43, none, .bin .eql 3 (.tmp 41) (.tmp 42), []⟩]]) 
 (.cond (.tmp 43) 
 (.seq (.ops [.grp none [⟨some 4, none, .move (.const (.bool false)), []⟩]]) .ret) .skip)))) (.ops [.grp none [⟨some 44, none, .bin .add 3 (.tmp 36) (.const (.int .i64 1)), []⟩, ⟨some 36, none, .move (.tmp 44), []⟩]])))))))))) (.ops [.grp none [⟨some 45, none, .bin .add 3 (.tmp 16) (.const (.int .i64 1)), []⟩, ⟨some 16, none, .move (.tmp 45), []⟩]]))))))) 
 (.seq (.ops [.grp none [⟨some 4, none, .move (.const (.bool true)), []⟩]]) .ret)))⟩
theorem low36 : lowG Try.prog 36 = some g36 := by kernel_rfl

def g37 : GFn :=
 ⟨20, [⟨4, none⟩], .seq (.ops [.grp none [⟨some 4, none, .move (.const (.slice none 0 0)), []⟩]]) 
 (.seq (.ops [.grp none [⟨some 8, none, .move (.tmp 0), []⟩, ⟨some 9, none, .move (.tmp 1), []⟩, ⟨some 10, none, .call 50 #[.tmp 8, .tmp 9], []⟩, ⟨some 7, none, .move (.tmp 10), []⟩, ⟨some 11, none, .extract (.tmp 7) 0, []⟩, ⟨some 12, none, .extract (.tmp 7) 1, []⟩, ⟨some 5, none, .move (.tmp 11), []⟩, ⟨some 6, none, .move (.tmp 12), []⟩]]) 
 (.seq 
 (.seq (.ops [.grp none [⟨some 13, none, .move (.tmp 6), []⟩, ⟨some 14, none, .bin .neq 47 (.tmp 13) (.const (.int .i64 0)), []⟩]]) 
 (.cond (.tmp 14) 
 (.seq (.ops [.grp none [⟨some 4, none, .move (.const (.slice none 0 0)), []⟩]]) .ret) .skip)) 
 (.seq (.ops [.grp none [⟨some 15, none, .move (.tmp 5), []⟩, ⟨some 16, none, .nonnil (.tmp 15), []⟩, ⟨some 17, none, .faddr 0 (.tmp 16), []⟩, ⟨some 18, none, .load none (.tmp 17), []⟩, ⟨some 19, none, .call 19 #[.tmp 18], []⟩, ⟨some 4, none, .move (.tmp 19), []⟩]]) .ret)))⟩
theorem low37 : lowG Try.prog 37 = some g37 := by kernel_rfl

def g38 : GFn :=
 ⟨27, [⟨6, none⟩], .seq (.ops [.grp none [⟨some 6, none, .move (.const (.int .i64 0)), []⟩]]) 
 (.seq (.ops [.grp none [⟨some 10, none, .move (.tmp 0), []⟩, ⟨some 11, none, .move (.tmp 1), []⟩, ⟨some 12, none, .call 50 #[.tmp 10, .tmp 11], []⟩, ⟨some 9, none, .move (.tmp 12), []⟩, ⟨some 13, none, .extract (.tmp 9) 0, []⟩, ⟨some 14, none, .extract (.tmp 9) 1, []⟩, ⟨some 7, none, .move (.tmp 13), []⟩, ⟨some 8, none, .move (.tmp 14), []⟩]]) 
 (.seq 
 (.seq (.ops [.grp none [⟨some 15, none, .move (.tmp 8), []⟩, ⟨some 16, none, .bin .neq 47 (.tmp 15) (.const (.int .i64 0)), []⟩]]) 
 (.cond (.tmp 16) 
 (.seq (.ops [.grp none [⟨some 6, none, .move (.const (.int .i64 0)), []⟩]]) .ret) .skip)) 
 (.seq (.ops [.grp none [⟨some 17, none, .move (.tmp 0), []⟩, ⟨some 18, none, .move (.tmp 2), []⟩, ⟨some 20, none, .move (.tmp 7), []⟩, ⟨some 21, none, .nonnil (.tmp 20), []⟩, ⟨some 22, none, .faddr 1 (.tmp 21), []⟩, ⟨some 23, none, .load none (.tmp 22), []⟩, ⟨some 24, none, .move (.tmp 2), []⟩, ⟨some 25, none, .lookup .i64 (.int .i64 0) (.tmp 23) (.tmp 24) false, []⟩, ⟨some 19, none, .call 52 #[.tmp 17, .tmp 18], [⟨some 25, none, .lookup .i64 (.int .i64 0) (.tmp 23) (.tmp 24) false⟩, ⟨some 23, none, .load none (.tmp 22)⟩]⟩, ⟨some 26, none, .bin .sub 3 (.tmp 19) (.tmp 25), []⟩, ⟨some 6, none, .move (.tmp 26), []⟩]]) .ret)))⟩
theorem low38 : lowG Try.prog 38 = some g38 := by kernel_rfl

def g39 : GFn :=
 ⟨30, [⟨4, none⟩], .seq (.ops [.grp none [⟨some 4, none, .move (.const (.int .i64 0)), []⟩]]) 
 (.seq 
 (.seq (.ops [.grp none [⟨some 6, none, .move (.tmp 0), []⟩, ⟨some 7, none, .move (.tmp 1), []⟩, ⟨some 8, none, .call 54 #[.tmp 6, .tmp 7], []⟩, ⟨some 9, none, .un .not (.tmp 8), []⟩]]) 
 (.cond (.tmp 9) 
 (.seq (.ops [.grp none [⟨some 4, none, .move (.const (.int .i64 3)), []⟩]]) .ret) .skip)) 
 (.seq 
 (.seq (.ops [.grp none [⟨some 5, none, .move (.const (.int .i64 0)), []⟩]]) 
 (.block 0 
 (.loop 
 (.seq 
 (.seq (.ops [.grp none [⟨some 10, none, .move (.tmp 5), []⟩, ⟨some 11, none, .move (.tmp 0), []⟩, ⟨some 12, none, .nonnil (.tmp 11), []⟩, ⟨some 13, none, .faddr 1 (.tmp 12), []⟩, ⟨some 14, none, .load none (.tmp 13), []⟩, ⟨some 15, none, .len (.tmp 14), []⟩, ⟨some 16, none, .bin .lss 3 (.tmp 10) (.tmp 15), []⟩]]) 
 (.cond (.tmp 16) .skip (.exit 0))) 
 (.seq 
 (.block 1 (.ops [.grp none [⟨some 19, none, .move (.tmp 0), []⟩, ⟨some 20, none, .move (.tmp 1), []⟩, ⟨some 21, none, .move (.tmp 0), []⟩, ⟨some 22, none, .nonnil (.tmp 21), []⟩, ⟨some 23, none, .faddr 1 (.tmp 22), []⟩, ⟨some 24, none, .load none (.tmp 23), []⟩, ⟨some 25, none, .move (.tmp 5), []⟩, ⟨some 26, none, .iaddr 4 (.tmp 24) (.tmp 25), []⟩, ⟨some 27, none, .faddr 0 (.tmp 26), []⟩, ⟨some 28, none, .load none (.tmp 27), []⟩, ⟨some 29, none, .call 55 #[.tmp 19, .tmp 20, .tmp 28], []⟩]])) (.ops [.grp none [⟨some 17, none, .move (.tmp 5), []⟩, ⟨some 18, none, .bin .add 3 (.tmp 17) (.const (.int .i64 1)), []⟩, ⟨some 5, none, .move (.tmp 18), []⟩]])))))) 
 (.seq (.ops [.grp none [⟨some 4, none, .move (.const (.int .i64 0)), []⟩]]) .ret)))⟩
theorem low39 : lowG Try.prog 39 = some g39 := by kernel_rfl

def g40 : GFn :=
 ⟨54, [⟨4, none⟩], .seq (.ops [.grp none [⟨some 4, none, .move (.const (.bool false)), []⟩]]) 
 (.seq 
 (.seq (.ops [.grp none [⟨some 5, none, .move (.const (.int .i64 0)), []⟩]]) 
 (.block 0 
 (.loop 
 (.seq 
 (.seq (.ops [.grp none [⟨some 7, none, .move (.tmp 5), []⟩, ⟨some 8, none, .move (.tmp 0), []⟩, ⟨some 9, none, .nonnil (.tmp 8), []⟩, ⟨some 10, none, .faddr 0 (.tmp 9), []⟩, ⟨some 11, none, .load none (.tmp 10), []⟩, ⟨some 12, none, .len (.tmp 11), []⟩, ⟨some 13, none, .bin .lss 3 (.tmp 7) (.tmp 12), []⟩]]) 
 (.cond (.tmp 13) .skip (.exit 0))) 
 (.seq 
 (.block 1 
 (.seq (.ops [.grp none [⟨some 6, none, .move (.const (.int .i64 0)), []⟩]]) 
 (.block 2 
 (.loop 
 (.seq 
 (.seq (.ops [.grp none [⟨some 16, none, .move (.tmp 6), []⟩, ⟨some 17, none, .move (.tmp 0), []⟩, ⟨some 18, none, .nonnil (.tmp 17), []⟩, ⟨some 19, none, .faddr 0 (.tmp 18), []⟩, ⟨some 20, none, .load none (.tmp 19), []⟩, ⟨some 21, none, .move (.tmp 5), []⟩, ⟨some 22, none, .iaddr 1 (.tmp 20) (.tmp 21), []⟩, ⟨some 23, none, .load none (.tmp 22), []⟩, ⟨some 24, none, .nonnil (.tmp 23), []⟩, ⟨some 25, none, .faddr 1 (.tmp 24), []⟩, ⟨some 26, none, .load none (.tmp 25), []⟩, ⟨some 27, none, .len (.tmp 26), []⟩, ⟨some 28, none, .bin .lss 3 (.tmp 16) (.tmp 27), []⟩]]) 
 (.cond (.tmp 28) .skip (.exit 2))) 
 (.seq 
 (.block 3 
 (.seq (.ops [.grp none [⟨some 31, none, .move (.tmp 0), []⟩, ⟨some 32, none, .nonnil (.tmp 31), []⟩, ⟨some 33, none, .faddr 0 (.tmp 32), []⟩, ⟨some 34, none, .load none (.tmp 33), []⟩, ⟨some 35, none, .move (.tmp 5), []⟩, ⟨some 36, none, .iaddr 1 (.tmp 34) (.tmp 35), []⟩, ⟨some 37, none, .load none (.tmp 36), []⟩, ⟨some 38, none, .nonnil (.tmp 37), []⟩, ⟨some 39, none, .faddr 1 (.tmp 38), []⟩, ⟨some 40, none, .load none (.tmp 39), []⟩, ⟨some 41, none, .move (.tmp 6), []⟩, ⟨some 42, none, .iaddr 5 (.tmp 40) (.tmp 41), []⟩, ⟨some 43, none, .faddr 0 (.tmp 42), []⟩, ⟨some 44, none, .load none (.tmp 43), []⟩, ⟨some 45, none, .move (.tmp 1), []⟩, ⟨some 46, none, .bin .eql 3 (.tmp 44) (.tmp 45), []⟩, ⟨some 47, none, .move (.tmp 46), []⟩],
  .grp (some (some 47, true)) [⟨some 48, none, .move (.tmp 0), []⟩, ⟨some 49, none, .move (.tmp 5), []⟩, ⟨some 50, none, .move (.tmp 1), []⟩, ⟨some 51, none, .call 56 #[.tmp 48, .tmp 49, .tmp 50], []⟩, ⟨some 52, none, .bin .neq 3 (.tmp 51) (.const (.int .i64 0)), []⟩],
  .grp none [⟨some 53, none, .pick (.tmp 47) (.tmp 52) (.const (.bool false)), []⟩]]) 
 (.cond (.tmp 53) 
 (.seq (.ops [.grp none [⟨some 4, none, .move (.const (.bool false)), []⟩]]) .ret) .skip))) (.ops [.grp none [⟨some 29, none, .move (.tmp 6), []⟩, ⟨some 30, none, .bin .add 3 (.tmp 29) (.const (.int .i64 1)), []⟩, ⟨some 6, none, .move (.tmp 30), []⟩]]))))))) (.ops [.grp none [⟨some 14, none, .move (.tmp 5), []⟩, ⟨some 15, none, .bin .add 3 (.tmp 14) (.const (.int .i64 1)), []⟩, ⟨some 5, none, .move (.tmp 15), []⟩]])))))) 
 (.seq (.ops [.grp none [⟨some 4, none, .move (.const (.bool true)), []⟩]]) .ret))⟩
theorem low40 : lowG Try.prog 40 = some g40 := by kernel_rfl

def g41 : GFn :=
 ⟨117, [⟨6, none⟩], .seq (.ops [.grp none [⟨some 5, none, .box 62 (.tmp 2), []⟩, ⟨some 6, none, .move (.const (.bool false)), []⟩]]) 
 (.seq 
 (.seq (.ops [.grp none [⟨some 11, none, .faddr 0 (.tmp 5), []⟩, ⟨some 12, none, .load none (.tmp 11), []⟩]]) 
 (.block 0 
 (.seq 
 (.seq (.ops [.grp none [⟨some 14, none, .bin .eql 3 (.tmp 12) (.const (.int .i64 0)), []⟩, ⟨some 13, none, .move (.tmp 14), []⟩]]) 
 (.cond (.tmp 13) .skip 
 (.seq (.ops [.grp none [⟨some 15, none, .bin .eql 3 (.tmp 12) (.const (.int .i64 1)), []⟩, ⟨some 13, none, .move (.tmp 15), []⟩]]) 
 (.cond (.tmp 13) .skip (.ops [.grp none [⟨some 16, none, .bin .eql 3 (.tmp 12) (.const (.int .i64 2)), []⟩, ⟨some 13, none, .move (.tmp 16), []⟩]]))))) 
 (.cond (.tmp 13) 
 (.seq (.ops [.grp none [⟨some 17, none, .move (.tmp 0), []⟩, ⟨some 18, none, .faddr 1 (.tmp 5), []⟩, ⟨some 19, none, .load none (.tmp 18), []⟩, ⟨some 20, none, .faddr 5 (.tmp 5), []⟩, ⟨some 21, none, .load (some 5) (.tmp 20), []⟩, ⟨some 23, none, .move (.tmp 1), []⟩, ⟨some 24, none, .faddr 1 (.tmp 5), []⟩, ⟨some 25, none, .load none (.tmp 24), []⟩, ⟨some 26, none, .faddr 5 (.tmp 5), []⟩, ⟨some 27, none, .load (some 5) (.tmp 26), []⟩, ⟨some 22, none, .call 29 #[.tmp 17, .tmp 19, .tmp 21], [⟨some 27, none, .load (some 5) (.tmp 26)⟩, ⟨some 25, none, .load none (.tmp 24)⟩]⟩, ⟨some 28, none, .call 57 #[.tmp 23, .tmp 25, .tmp 27], []⟩, ⟨some 29, none, .bin .eql 47 (.tmp 22) (.tmp 28), []⟩, ⟨some 6, none, .move (.tmp 29), []⟩]]) .ret) 
 (.seq 
 (.seq (.ops [.grp none [⟨some 31, none, .bin .eql 3 (.tmp 12) (.const (.int .i64 3)), []⟩, ⟨some 30, none, .move (.tmp 31), []⟩]]) 
 (.cond (.tmp 30) .skip (.ops [.grp none [⟨some 32, none, .bin .eql 3 (.tmp 12) (.const (.int .i64 4)), []⟩, ⟨some 30, none, .move (.tmp 32), []⟩]]))) 
 (.cond (.tmp 30) 
 (.seq (.ops [.grp none [⟨some 34, none, .move (.tmp 0), []⟩, ⟨some 35, none, .faddr 1 (.tmp 5), []⟩, ⟨some 36, none, .load none (.tmp 35), []⟩, ⟨some 37, none, .faddr 2 (.tmp 5), []⟩, ⟨some 38, none, .load none (.tmp 37), []⟩, ⟨some 39, none, .faddr 3 (.tmp 5), []⟩, ⟨some 40, none, .load none (.tmp 39), []⟩, ⟨some 41, none, .call 30 #[.tmp 34, .tmp 36, .tmp 38, .tmp 40], []⟩, ⟨some 33, none, .move (.tmp 41), []⟩, ⟨some 42, none, .extract (.tmp 33) 0, []⟩, ⟨some 43, none, .extract (.tmp 33) 1, []⟩, ⟨some 7, none, .zero 31 #[.int .i64 0, .int .i64 0, .int .i64 0, .int .i64 0, .bool false], []⟩, ⟨none, none, .store 5 (.tmp 7) (.tmp 42), []⟩, ⟨some 8, none, .move (.tmp 43), []⟩]]) 
 (.seq (.ops [.grp none [⟨some 45, none, .move (.tmp 1), []⟩, ⟨some 46, none, .faddr 1 (.tmp 5), []⟩, ⟨some 47, none, .load none (.tmp 46), []⟩, ⟨some 48, none, .faddr 2 (.tmp 5), []⟩, ⟨some 49, none, .load none (.tmp 48), []⟩, ⟨some 50, none, .faddr 3 (.tmp 5), []⟩, ⟨some 51, none, .load none (.tmp 50), []⟩, ⟨some 52, none, .call 58 #[.tmp 45, .tmp 47, .tmp 49, .tmp 51], []⟩, ⟨some 44, none, .move (.tmp 52), []⟩, ⟨some 53, none, .extract (.tmp 44) 0, []⟩, ⟨some 54, none, .extract (.tmp 44) 1, []⟩, ⟨some 9, none, .zero 31 #[.int .i64 0, .int .i64 0, .int .i64 0, .int .i64 0, .bool false], []⟩, ⟨none, none, .store 5 (.tmp 9) (.tmp 53), []⟩, ⟨some 10, none, .move (.tmp 54), []⟩]]) 
 (.seq (.ops [.grp none [⟨some 55, none, .load (some 5) (.tmp 7), []⟩, ⟨some 56, none, .load (some 5) (.tmp 9), []⟩, ⟨some 57, none, .bin .eql 31 (.tmp 55) (.tmp 56), []⟩, ⟨some 58, none, .move (.tmp 57), []⟩],
  .grp (some (some 58, true)) [⟨some 59, none, .move (.tmp 8), []⟩, ⟨some 60, none, .move (.tmp 10), []⟩, ⟨some 61, none, .bin .eql 4 (.tmp 59) (.tmp 60), []⟩],
  .grp none [⟨some 62, none, .pick (.tmp 58) (.tmp 61) (.const (.bool false)), []⟩, ⟨some 6, none, .move (.tmp 62), []⟩]]) .ret))) 
 (.seq 
 (.seq (.ops [.grp none [⟨some 64, none, .bin .eql 3 (.tmp 12) (.const (.int .i64 5)), []⟩, ⟨some 63, none, .move (.tmp 64), []⟩]]) 
 (.cond (.tmp 63) .skip 
 (.seq (.ops [.grp none [⟨some 65, none, .bin .eql 3 (.tmp 12) (.const (.int .i64 6)), []⟩, ⟨some 63, none, .move (.tmp 65), []⟩]]) 
 (.cond (.tmp 63) .skip (.ops [.grp none [⟨some 66, none, .bin .eql 3 (.tmp 12) (.const (.int .i64 7)), []⟩, ⟨some 63, none, .move (.tmp 66), []⟩]]))))) 
 (.cond (.tmp 63) 
 (.seq (.ops [.grp none [⟨some 67, none, .move (.tmp 0), []⟩, ⟨some 68, none, .faddr 2 (.tmp 5), []⟩, ⟨some 69, none, .load none (.tmp 68), []⟩, ⟨some 70, none, .faddr 3 (.tmp 5), []⟩, ⟨some 71, none, .load none (.tmp 70), []⟩, ⟨some 72, none, .faddr 4 (.tmp 5), []⟩, ⟨some 73, none, .load none (.tmp 72), []⟩, ⟨some 74, none, .call 31 #[.tmp 67, .tmp 69, .tmp 71, .tmp 73], []⟩]]) 
 (.seq (.ops [.grp none [⟨some 75, none, .move (.tmp 1), []⟩, ⟨some 76, none, .faddr 2 (.tmp 5), []⟩, ⟨some 77, none, .load none (.tmp 76), []⟩, ⟨some 78, none, .faddr 3 (.tmp 5), []⟩, ⟨some 79, none, .load none (.tmp 78), []⟩, ⟨some 80, none, .faddr 4 (.tmp 5), []⟩, ⟨some 81, none, .load none (.tmp 80), []⟩, ⟨some 82, none, .call 59 #[.tmp 75, .tmp 77, .tmp 79, .tmp 81], []⟩]]) 
 (.seq (.ops [.grp none [⟨some 6, none, .move (.const (.bool true)), []⟩]]) .ret))) 
 (.seq (.ops [.grp none [⟨some 84, none, .bin .eql 3 (.tmp 12) (.const (.int .i64 8)), []⟩, ⟨some 83, none, .move (.tmp 84), []⟩]]) 
 (.cond (.tmp 83) 
 (.seq (.ops [.grp none [⟨some 85, none, .move (.tmp 0), []⟩, ⟨some 86, none, .faddr 1 (.tmp 5), []⟩, ⟨some 87, none, .load none (.tmp 86), []⟩, ⟨some 89, none, .move (.tmp 1), []⟩, ⟨some 90, none, .faddr 1 (.tmp 5), []⟩, ⟨some 91, none, .load none (.tmp 90), []⟩, ⟨some 88, none, .call 32 #[.tmp 85, .tmp 87], [⟨some 91, none, .load none (.tmp 90)⟩]⟩, ⟨some 92, none, .call 39 #[.tmp 89, .tmp 91], []⟩, ⟨some 93, none, .bin .eql 47 (.tmp 88) (.tmp 92), []⟩, ⟨some 6, none, .move (.tmp 93), []⟩]]) .ret) 
 (.seq (.ops [.grp none [⟨some 95, none, .bin .eql 3 (.tmp 12) (.const (.int .i64 9)), []⟩, ⟨some 94, none, .move (.tmp 95), []⟩]]) 
 (.cond (.tmp 94) 
 (.seq (.ops [.grp none [⟨some 96, none, .move (.tmp 0), []⟩, ⟨some 97, none, .faddr 2 (.tmp 5), []⟩, ⟨some 98, none, .load none (.tmp 97), []⟩, ⟨some 99, none, .call 33 #[.tmp 96, .tmp 98], []⟩]]) 
 (.seq (.ops [.grp none [⟨some 100, none, .move (.tmp 1), []⟩, ⟨some 101, none, .faddr 2 (.tmp 5), []⟩, ⟨some 102, none, .load none (.tmp 101), []⟩, ⟨some 103, none, .call 60 #[.tmp 100, .tmp 102], []⟩]]) 
 (.seq (.ops [.grp none [⟨some 6, none, .move (.const (.bool true)), []⟩]]) .ret))) .skip)))))))))))) 
 (.seq (.ops [.grp none [⟨some 104, none, .move (.tmp 0), []⟩, ⟨some 105, none, .faddr 1 (.tmp 5), []⟩, ⟨some 106, none, .load none (.tmp 105), []⟩, ⟨some 107, none, .faddr 4 (.tmp 5), []⟩, ⟨some 108, none, .load none (.tmp 107), []⟩, ⟨some 110, none, .move (.tmp 1), []⟩, ⟨some 111, none, .faddr 1 (.tmp 5), []⟩, ⟨some 112, none, .load none (.tmp 111), []⟩, ⟨some 113, none, .faddr 4 (.tmp 5), []⟩, ⟨some 114, none, .load none (.tmp 113), []⟩, ⟨some 109, none, .call 34 #[.tmp 104, .tmp 106, .tmp 108], [⟨some 114, none, .load none (.tmp 113)⟩, ⟨some 112, none, .load none (.tmp 111)⟩]⟩, ⟨some 115, none, .call 61 #[.tmp 110, .tmp 112, .tmp 114], []⟩, ⟨some 116, none, .bin .eql 47 (.tmp 109) (.tmp 115), []⟩, ⟨some 6, none, .move (.tmp 116), []⟩]]) .ret))⟩
theorem low41 : lowG Try.prog 41 = some g41 := by kernel_rfl

def g42 : GFn :=
 ⟨10, [⟨2, none⟩], .seq (.ops [.grp none [⟨some 2, none, .move (.const (.int .i64 0)), []⟩]]) 
 (.seq 
 (.seq (.ops [.grp none [⟨some 3, none, .move (.tmp 0), []⟩, ⟨some 4, none, .bin .eql 57 (.tmp 3) (.const (.pointer none)), []⟩]]) 
 (.cond (.tmp 4) 
 (.seq (.ops [.grp none [⟨some 2, none, .move (.const (.int .i64 0)), []⟩]]) .ret) .skip)) 
 (.seq (.ops [.grp none [⟨some 5, none, .move (.tmp 0), []⟩, ⟨some 6, none, .nonnil (.tmp 5), []⟩, ⟨some 7, none, .faddr 0 (.tmp 6), []⟩, ⟨some 8, none, .load none (.tmp 7), []⟩, ⟨some 9, none, .len (.tmp 8), []⟩, ⟨some 2, none, .move (.tmp 9), []⟩]]) .ret))⟩
theorem low42 : lowG Try.prog 42 = some g42 := by kernel_rfl

def g50 : GFn :=
 ⟨28, [⟨4, none⟩, ⟨5, none⟩], .seq (.ops [.grp none [⟨some 4, none, .move (.const (.pointer none)), []⟩, ⟨some 5, none, .move (.const (.int .i64 0)), []⟩]]) 
 (.seq 
 (.block 0 
 (.seq (.ops [.grp none [⟨some 7, none, .move (.tmp 0), []⟩, ⟨some 8, none, .bin .eql 57 (.tmp 7) (.const (.pointer none)), []⟩, ⟨some 6, none, .move (.tmp 8), []⟩]]) 
 (.cond (.tmp 6) 
 (.seq (.ops [.grp none [⟨some 4, none, .move (.const (.pointer none)), []⟩, ⟨some 5, none, .move (.const (.int .i64 1)), []⟩]]) .ret) 
 (.seq (.ops [.grp none [⟨some 10, none, .move (.tmp 1), []⟩, ⟨some 11, none, .bin .lss 3 (.tmp 10) (.const (.int .i64 0)), []⟩, ⟨some 12, none, .move (.tmp 11), []⟩],
  .grp (some (some 12, false)) [⟨some 13, none, .move (.tmp 1), []⟩, ⟨some 14, none, .move (.tmp 0), []⟩, ⟨some 15, none, .nonnil (.tmp 14), []⟩, ⟨some 16, none, .faddr 0 (.tmp 15), []⟩, ⟨some 17, none, .load none (.tmp 16), []⟩, ⟨some 18, none, .len (.tmp 17), []⟩, ⟨some 19, none, .bin .geq 3 (.tmp 13) (.tmp 18), []⟩],
  .grp none [⟨some 20, none, .pick (.tmp 12) (.const (.bool true)) (.tmp 19), []⟩, ⟨some 9, none, .move (.tmp 20), []⟩]]) 
 (.cond (.tmp 9) 
 (.seq (.ops [.grp none [⟨some 4, none, .move (.const (.pointer none)), []⟩, ⟨some 5, none, .move (.const (.int .i64 3)), []⟩]]) .ret) .skip))))) 
 (.seq (.ops [.grp none [⟨some 21, none, .move (.tmp 0), []⟩, ⟨some 22, none, .nonnil (.tmp 21), []⟩, ⟨some 23, none, .faddr 0 (.tmp 22), []⟩, ⟨some 24, none, .load none (.tmp 23), []⟩, ⟨some 25, none, .move (.tmp 1), []⟩, ⟨some 26, none, .iaddr 1 (.tmp 24) (.tmp 25), []⟩, ⟨some 27, none, .load none (.tmp 26), []⟩, ⟨some 4, none, .move (.tmp 27), []⟩, ⟨some 5, none, .move (.const (.int .i64 0)), []⟩]]) .ret))⟩
theorem low50 : lowG Try.prog 50 = some g50 := by kernel_rfl

def g51 : GFn :=
 ⟨78, [], .seq (.ops [.grp none [⟨some 4, none, .box 95 (.tmp 1), []⟩, ⟨some 5, none, .box 3 (.tmp 2), []⟩]]) 
 (.seq (.ops [.grp none [⟨some 9, none, .move (.tmp 0), []⟩, ⟨some 10, none, .nonnil (.tmp 9), []⟩, ⟨some 11, none, .faddr 1 (.tmp 10), []⟩, ⟨some 12, none, .load none (.tmp 11), []⟩, ⟨some 13, none, .load none (.tmp 5), []⟩, ⟨some 14, none, .lookup .i64 (.pointer none) (.tmp 12) (.tmp 13) false, []⟩, ⟨some 6, none, .move (.tmp 14), []⟩]]) 
 (.seq 
 (.seq (.ops [.grp none [⟨some 15, none, .move (.tmp 6), []⟩, ⟨some 16, none, .bin .eql 102 (.tmp 15) (.const (.pointer none)), []⟩, ⟨some 17, none, .move (.tmp 16), []⟩],
  .grp (some (some 17, false)) [⟨some 18, none, .load none (.tmp 4), []⟩, ⟨some 19, none, .nonnil (.tmp 18), []⟩, ⟨some 20, none, .faddr 1 (.tmp 19), []⟩, ⟨some 21, none, .load none (.tmp 20), []⟩, ⟨some 22, none, .load none (.tmp 5), []⟩, ⟨some 23, none, .lookup .i64 (.int .i64 0) (.tmp 21) (.tmp 22) false, []⟩, ⟨some 24, none, .move (.tmp 6), []⟩, ⟨some 25, none, .nonnil (.tmp 24), []⟩, ⟨some 26, none, .faddr 0 (.tmp 25), []⟩, ⟨some 27, none, .load none (.tmp 26), []⟩, ⟨some 28, none, .bin .eql 3 (.tmp 23) (.tmp 27), []⟩],
  .grp none [⟨some 29, none, .pick (.tmp 17) (.const (.bool true)) (.tmp 28), []⟩]]) 
 (.cond (.tmp 29) .ret .skip)) 
 (.seq (.ops [.grp none [⟨some 30, none, .move (.tmp 6), []⟩, ⟨some 31, none, .nonnil (.tmp 30), []⟩, ⟨some 32, none, .faddr 0 (.tmp 31), []⟩, ⟨some 33, none, .load none (.tmp 32), []⟩, ⟨some 34, none, .load none (.tmp 4), []⟩, ⟨some 35, none, .nonnil (.tmp 34), []⟩, ⟨some 36, none, .faddr 1 (.tmp 35), []⟩, ⟨some 37, none, .load none (.tmp 36), []⟩, ⟨some 38, none, .load none (.tmp 5), []⟩, ⟨some 39, none, .lookup .i64 (.int .i64 0) (.tmp 37) (.tmp 38) false, []⟩, ⟨some 40, none, .bin .sub 3 (.tmp 33) (.tmp 39), []⟩, ⟨some 7, none, .move (.tmp 40), []⟩]]) 
 (.seq (.ops [.grp none [⟨some 41, none, .fn 66 #[.tmp 4, .tmp 5], []⟩, ⟨some 8, none, .move (.tmp 41), []⟩]]) 
 (.seq 
 (.seq (.ops [.grp none [⟨some 42, none, .move (.tmp 7), []⟩, ⟨some 43, none, .move (.tmp 6), []⟩, ⟨some 44, none, .nonnil (.tmp 43), []⟩, ⟨some 45, none, .faddr 1 (.tmp 44), []⟩, ⟨some 46, none, .load none (.tmp 45), []⟩, ⟨some 47, none, .len (.tmp 46), []⟩, ⟨some 48, none, .bin .gtr 3 (.tmp 42) (.tmp 47), []⟩]]) 
 (.cond (.tmp 48) (.ops [.grp none [⟨some 49, none, .load none (.tmp 4), []⟩, ⟨some 50, none, .nonnil (.tmp 49), []⟩, ⟨some 51, none, .faddr 0 (.tmp 50), []⟩, ⟨some 52, none, .load none (.tmp 51), []⟩, ⟨some 53, none, .load none (.tmp 5), []⟩, ⟨some 54, none, .call 26 #[.tmp 52, .tmp 53], []⟩]]) (.ops [.grp none [⟨some 55, none, .move (.tmp 8), []⟩, ⟨some 56, none, .move (.tmp 6), []⟩, ⟨some 57, none, .nonnil (.tmp 56), []⟩, ⟨some 58, none, .faddr 1 (.tmp 57), []⟩, ⟨some 59, none, .load none (.tmp 58), []⟩, ⟨some 60, none, .move (.tmp 6), []⟩, ⟨some 61, none, .nonnil (.tmp 60), []⟩, ⟨some 62, none, .faddr 1 (.tmp 61), []⟩, ⟨some 63, none, .load none (.tmp 62), []⟩, ⟨some 64, none, .len (.tmp 63), []⟩, ⟨some 65, none, .move (.tmp 7), []⟩, ⟨some 66, none, .bin .sub 3 (.tmp 64) (.tmp 65), []⟩, ⟨some 67, none, .slice 107 2 (.tmp 59) (some (.tmp 66)) none none, []⟩, ⟨some 68, none, .callv (.tmp 55) #[.tmp 67], []⟩]]))) (.ops [.grp none [⟨some 69, none, .load none (.tmp 4), []⟩, ⟨some 70, none, .nonnil (.tmp 69), []⟩, ⟨some 71, none, .faddr 1 (.tmp 70), []⟩, ⟨some 72, none, .load none (.tmp 71), []⟩, ⟨some 73, none, .load none (.tmp 5), []⟩, ⟨some 74, none, .move (.tmp 6), []⟩, ⟨some 75, none, .nonnil (.tmp 74), []⟩, ⟨some 76, none, .faddr 0 (.tmp 75), []⟩, ⟨some 77, none, .load none (.tmp 76), []⟩, ⟨none, none, .update .i64 (.tmp 72) (.tmp 73) (.tmp 77), []⟩]]))))))⟩
theorem low51 : lowG Try.prog 51 = some g51 := by kernel_rfl

def g52 : GFn :=
 ⟨18, [⟨4, none⟩], .seq (.ops [.grp none [⟨some 4, none, .move (.const (.int .i64 0)), []⟩]]) 
 (.seq 
 (.seq (.ops [.grp none [⟨some 6, none, .move (.tmp 0), []⟩, ⟨some 7, none, .nonnil (.tmp 6), []⟩, ⟨some 8, none, .faddr 1 (.tmp 7), []⟩, ⟨some 9, none, .load none (.tmp 8), []⟩, ⟨some 10, none, .move (.tmp 1), []⟩, ⟨some 11, none, .lookup .i64 (.pointer none) (.tmp 9) (.tmp 10) false, []⟩, ⟨some 5, none, .move (.tmp 11), []⟩]]) 
 (.seq (.ops [.grp none [⟨some 12, none, .move (.tmp 5), []⟩, ⟨some 13, none, .bin .neq 102 (.tmp 12) (.const (.pointer none)), []⟩]]) 
 (.cond (.tmp 13) 
 (.seq (.ops [.grp none [⟨some 14, none, .move (.tmp 5), []⟩, ⟨some 15, none, .nonnil (.tmp 14), []⟩, ⟨some 16, none, .faddr 0 (.tmp 15), []⟩, ⟨some 17, none, .load none (.tmp 16), []⟩, ⟨some 4, none, .move (.tmp 17), []⟩]]) .ret) .skip))) 
 (.seq (.ops [.grp none [⟨some 4, none, .move (.const (.int .i64 0)), []⟩]]) .ret))⟩
theorem low52 : lowG Try.prog 52 = some g52 := by kernel_rfl

def g53 : GFn :=
 ⟨42, [⟨4, none⟩, ⟨5, none⟩], .seq (.ops [.grp none [⟨some 4, none, .move (.const (.pointer none)), []⟩, ⟨some 5, none, .move (.const (.int .i64 0)), []⟩]]) 
 (.seq 
 (.seq (.ops [.grp none [⟨some 8, none, .move (.tmp 0), []⟩, ⟨some 9, none, .bin .lss 3 (.tmp 8) (.const (.int .i64 1)), []⟩, ⟨some 10, none, .move (.tmp 9), []⟩],
  .grp (some (some 10, false)) [⟨some 11, none, .move (.tmp 0), []⟩, ⟨some 12, none, .bin .gtr 3 (.tmp 11) (.const (.int .i64 8)), []⟩],
  .grp none [⟨some 13, none, .pick (.tmp 10) (.const (.bool true)) (.tmp 12), []⟩, ⟨some 14, none, .move (.tmp 13), []⟩],
  .grp (some (some 14, false)) [⟨some 15, none, .move (.tmp 1), []⟩, ⟨some 16, none, .bin .lss 3 (.tmp 15) (.const (.int .i64 1)), []⟩],
  .grp none [⟨some 17, none, .pick (.tmp 14) (.const (.bool true)) (.tmp 16), []⟩, ⟨some 18, none, .move (.tmp 17), []⟩],
  .grp (some (some 18, false)) [⟨some 19, none, .move (.tmp 1), []⟩, ⟨some 20, none, .bin .gtr 3 (.tmp 19) (.const (.int .i64 64)), []⟩],
  .grp none [⟨some 21, none, .pick (.tmp 18) (.const (.bool true)) (.tmp 20), []⟩]]) 
 (.cond (.tmp 21) 
 (.seq (.ops [.grp none [⟨some 4, none, .move (.const (.pointer none)), []⟩, ⟨some 5, none, .move (.const (.int .i64 2)), []⟩]]) .ret) .skip)) 
 (.seq (.ops [.grp none [⟨some 22, none, .build #[(0, 1), (1, 1), (2, 1)] #[.slice none 0 0, .slice none 0 0, .slice none 0 0] [], []⟩, ⟨some 23, none, .box 114 (.tmp 22), []⟩, ⟨some 6, none, .move (.tmp 23), []⟩]]) 
 (.seq 
 (.seq (.ops [.grp none [⟨some 7, none, .move (.const (.int .i64 0)), []⟩]]) 
 (.block 0 
 (.loop 
 (.seq 
 (.seq (.ops [.grp none [⟨some 24, none, .move (.tmp 7), []⟩, ⟨some 25, none, .move (.tmp 0), []⟩, ⟨some 26, none, .bin .lss 3 (.tmp 24) (.tmp 25), []⟩]]) 
 (.cond (.tmp 26) .skip (.exit 0))) 
 (.seq 
 (.block 1 (.ops [.grp none [⟨some 29, none, .move (.tmp 6), []⟩, ⟨some 30, none, .move (.tmp 6), []⟩, ⟨some 31, none, .nonnil (.tmp 30), []⟩, ⟨some 32, none, .faddr 0 (.tmp 31), []⟩, ⟨some 33, none, .load none (.tmp 32), []⟩, ⟨some 34, none, .move (.tmp 1), []⟩, ⟨some 35, none, .build #[(0, 1), (1, 1)] #[.int .i64 0, .slice none 0 0] [(0, .tmp 34)], []⟩, ⟨some 36, none, .box 38 (.tmp 35), []⟩, ⟨some 37, none, .row 26 1 1 #[.pointer none] [(0, .tmp 36)], []⟩, ⟨some 38, none, .append 26 1 8 (.tmp 33) (.tmp 37), []⟩, ⟨some 39, none, .nonnil (.tmp 29), []⟩, ⟨some 40, none, .faddr 0 (.tmp 39), []⟩, ⟨none, none, .store 1 (.tmp 40) (.tmp 38), []⟩]])) (.ops [.grp none [⟨some 27, none, .move (.tmp 7), []⟩, ⟨some 28, none, .bin .add 3 (.tmp 27) (.const (.int .i64 1)), []⟩, ⟨some 7, none, .move (.tmp 28), []⟩]])))))) 
 (.seq (.ops [.grp none [⟨some 41, none, .move (.tmp 6), []⟩, ⟨some 4, none, .move (.tmp 41), []⟩, ⟨some 5, none, .move (.const (.int .i64 0)), []⟩]]) .ret))))⟩
theorem low53 : lowG Try.prog 53 = some g53 := by kernel_rfl

def g54 : GFn :=
 ⟨16, [⟨4, none⟩], .seq (.ops [.grp none [⟨some 4, none, .move (.const (.bool false)), []⟩]]) 
 (.seq (.ops [.grp none [⟨some 5, none, .move (.tmp 1), []⟩, ⟨some 6, none, .bin .geq 3 (.tmp 5) (.const (.int .i64 0)), []⟩, ⟨some 7, none, .move (.tmp 6), []⟩],
  .grp (some (some 7, true)) [⟨some 8, none, .move (.tmp 1), []⟩, ⟨some 9, none, .move (.tmp 0), []⟩, ⟨some 10, none, .nonnil (.tmp 9), []⟩, ⟨some 11, none, .faddr 0 (.tmp 10), []⟩, ⟨some 12, none, .load none (.tmp 11), []⟩, ⟨some 13, none, .len (.tmp 12), []⟩, ⟨some 14, none, .bin .lss 3 (.tmp 8) (.tmp 13), []⟩],
  .grp none [⟨some 15, none, .pick (.tmp 7) (.tmp 14) (.const (.bool false)), []⟩, ⟨some 4, none, .move (.tmp 15), []⟩]]) .ret)⟩
theorem low54 : lowG Try.prog 54 = some g54 := by kernel_rfl

def g55 : GFn :=
 ⟨85, [], .seq (.ops [.grp none [⟨some 10, none, .move (.tmp 0), []⟩, ⟨some 11, none, .move (.tmp 2), []⟩, ⟨some 12, none, .call 67 #[.tmp 10, .tmp 11], []⟩, ⟨some 6, none, .move (.tmp 12), []⟩]]) 
 (.seq (.ops [.grp none [⟨some 13, none, .move (.tmp 0), []⟩, ⟨some 14, none, .move (.tmp 1), []⟩, ⟨some 15, none, .move (.tmp 2), []⟩, ⟨some 16, none, .call 68 #[.tmp 13, .tmp 14, .tmp 15], []⟩, ⟨some 7, none, .move (.tmp 16), []⟩]]) 
 (.seq 
 (.seq (.ops [.grp none [⟨some 17, none, .move (.tmp 6), []⟩, ⟨some 18, none, .move (.tmp 7), []⟩, ⟨some 19, none, .bin .eql 3 (.tmp 17) (.tmp 18), []⟩]]) 
 (.cond (.tmp 19) .ret .skip)) 
 (.seq 
 (.seq (.ops [.grp none [⟨some 20, none, .move (.tmp 6), []⟩, ⟨some 21, none, .move (.tmp 7), []⟩, ⟨some 22, none, .bin .sub 3 (.tmp 20) (.tmp 21), []⟩, ⟨some 23, none, .bin .gtr 3 (.tmp 22) (.const (.int .i64 8)), []⟩]]) 
 (.cond (.tmp 23) (.ops [.grp none [⟨some 24, none, .move (.tmp 0), []⟩, ⟨some 25, none, .nonnil (.tmp 24), []⟩, ⟨some 26, none, .faddr 0 (.tmp 25), []⟩, ⟨some 27, none, .load none (.tmp 26), []⟩, ⟨some 28, none, .move (.tmp 1), []⟩, ⟨some 29, none, .iaddr 1 (.tmp 27) (.tmp 28), []⟩, ⟨some 30, none, .load none (.tmp 29), []⟩, ⟨some 31, none, .move (.tmp 2), []⟩, ⟨some 32, none, .call 23 #[.tmp 30, .tmp 31, .const (.int .i64 0), .const (.int .i64 4096)], []⟩]]) 
 (.seq (.ops [.grp none [⟨some 8, none, .move (.const (.int .i64 0)), []⟩]]) 
 (.block 0 
 (.loop 
 (.seq 
 (.seq (.ops [.grp none [⟨some 33, none, .move (.tmp 8), []⟩, ⟨some 34, none, .move (.tmp 0), []⟩, ⟨some 35, none, .nonnil (.tmp 34), []⟩, ⟨some 36, none, .faddr 1 (.tmp 35), []⟩, ⟨some 37, none, .load none (.tmp 36), []⟩, ⟨some 38, none, .len (.tmp 37), []⟩, ⟨some 39, none, .bin .lss 3 (.tmp 33) (.tmp 38), []⟩]]) 
 (.cond (.tmp 39) .skip (.exit 0))) 
 (.seq 
 (.block 1 
 (.seq (.ops [.grp none [⟨some 42, none, .move (.tmp 0), []⟩, ⟨some 43, none, .nonnil (.tmp 42), []⟩, ⟨some 44, none, .faddr 1 (.tmp 43), []⟩, ⟨some 45, none, .load none (.tmp 44), []⟩, ⟨some 46, none, .move (.tmp 8), []⟩, ⟨some 47, none, .iaddr 4 (.tmp 45) (.tmp 46), []⟩, ⟨some 48, none, .load (some 4) (.tmp 47), []⟩, ⟨some 9, none, .zero 117 #[.int .i64 0, .int .i64 0, .int .i64 0, .int .i64 0], []⟩, ⟨none, none, .store 4 (.tmp 9) (.tmp 48), []⟩]]) 
 (.seq (.ops [.grp none [⟨some 49, none, .faddr 0 (.tmp 9), []⟩, ⟨some 50, none, .load none (.tmp 49), []⟩, ⟨some 51, none, .move (.tmp 2), []⟩, ⟨some 52, none, .bin .eql 3 (.tmp 50) (.tmp 51), []⟩, ⟨some 53, none, .move (.tmp 52), []⟩],
  .grp (some (some 53, true)) [⟨some 54, none, .faddr 3 (.tmp 9), []⟩, ⟨some 55, none, .load none (.tmp 54), []⟩, ⟨some 56, none, .move (.tmp 7), []⟩, ⟨some 57, none, .bin .gtr 3 (.tmp 55) (.tmp 56), []⟩],
  .grp none [⟨some 58, none, .pick (.tmp 53) (.tmp 57) (.const (.bool false)), []⟩]]) 
 (.cond (.tmp 58) (.ops [.grp none [⟨some 59, none, .move (.tmp 0), []⟩, ⟨some 60, none, .nonnil (.tmp 59), []⟩, ⟨some 61, none, .faddr 0 (.tmp 60), []⟩, ⟨some 62, none, .load none (.tmp 61), []⟩, ⟨some 63, none, .move (.tmp 1), []⟩, ⟨some 64, none, .iaddr 1 (.tmp 62) (.tmp 63), []⟩, ⟨some 65, none, .load none (.tmp 64), []⟩, ⟨some 66, none, .move (.tmp 2), []⟩, ⟨some 67, none, .faddr 1 (.tmp 9), []⟩, ⟨some 68, none, .load none (.tmp 67), []⟩, ⟨some 69, none, .faddr 2 (.tmp 9), []⟩, ⟨some 70, none, .load none (.tmp 69), []⟩, ⟨some 71, none, .call 23 #[.tmp 65, .tmp 66, .tmp 68, .tmp 70], []⟩]]) .skip)))) (.ops [.grp none [⟨some 40, none, .move (.tmp 8), []⟩, ⟨some 41, none, .bin .add 3 (.tmp 40) (.const (.int .i64 1)), []⟩, ⟨some 8, none, .move (.tmp 41), []⟩]])))))))) (.ops [.grp none [⟨some 72, none, .move (.tmp 0), []⟩, ⟨some 73, none, .move (.tmp 0), []⟩, ⟨some 74, none, .nonnil (.tmp 73), []⟩, ⟨some 75, none, .faddr 2 (.tmp 74), []⟩, ⟨some 76, none, .load none (.tmp 75), []⟩, ⟨some 77, none, .move (.tmp 1), []⟩, ⟨some 78, none, .move (.tmp 2), []⟩, ⟨some 79, none, .move (.tmp 6), []⟩, ⟨some 80, none, .build #[(0, 1), (1, 1), (2, 1)] #[.int .i64 0, .int .i64 0, .int .i64 0] [(0, .tmp 77), (1, .tmp 78), (2, .tmp 79)], []⟩, ⟨some 81, none, .row 122 3 1 #[.int .i64 0, .int .i64 0, .int .i64 0] [(0, .tmp 80)], []⟩, ⟨some 82, none, .append 122 3 24 (.tmp 76) (.tmp 81), []⟩, ⟨some 83, none, .nonnil (.tmp 72), []⟩, ⟨some 84, none, .faddr 2 (.tmp 83), []⟩, ⟨none, none, .store 1 (.tmp 84) (.tmp 82), []⟩]]))))⟩
theorem low55 : lowG Try.prog 55 = some g55 := by kernel_rfl

def g56 : GFn :=
 ⟨19, [⟨6, none⟩], .seq (.ops [.grp none [⟨some 6, none, .move (.const (.int .i64 0)), []⟩]]) 
 (.seq 
 (.seq (.ops [.grp none [⟨some 7, none, .move (.tmp 0), []⟩, ⟨some 8, none, .move (.tmp 1), []⟩, ⟨some 9, none, .call 54 #[.tmp 7, .tmp 8], []⟩, ⟨some 10, none, .un .not (.tmp 9), []⟩]]) 
 (.cond (.tmp 10) 
 (.seq (.ops [.grp none [⟨some 6, none, .move (.const (.int .i64 0)), []⟩]]) .ret) .skip)) 
 (.seq (.ops [.grp none [⟨some 11, none, .move (.tmp 0), []⟩, ⟨some 12, none, .move (.tmp 2), []⟩, ⟨some 13, none, .call 67 #[.tmp 11, .tmp 12], []⟩, ⟨some 14, none, .move (.tmp 0), []⟩, ⟨some 15, none, .move (.tmp 1), []⟩, ⟨some 16, none, .move (.tmp 2), []⟩, ⟨some 17, none, .call 68 #[.tmp 14, .tmp 15, .tmp 16], []⟩, ⟨some 18, none, .bin .sub 3 (.tmp 13) (.tmp 17), []⟩, ⟨some 6, none, .move (.tmp 18), []⟩]]) .ret))⟩
theorem low56 : lowG Try.prog 56 = some g56 := by kernel_rfl

def g57 : GFn :=
 ⟨25, [⟨6, none⟩], .seq (.ops [.grp none [⟨some 5, none, .box 31 (.tmp 2), []⟩, ⟨some 6, none, .move (.const (.int .i64 0)), []⟩]]) 
 (.seq 
 (.seq (.ops [.grp none [⟨some 7, none, .move (.tmp 0), []⟩, ⟨some 8, none, .move (.tmp 1), []⟩, ⟨some 9, none, .call 54 #[.tmp 7, .tmp 8], []⟩, ⟨some 10, none, .un .not (.tmp 9), []⟩]]) 
 (.cond (.tmp 10) 
 (.seq (.ops [.grp none [⟨some 6, none, .move (.const (.int .i64 3)), []⟩]]) .ret) .skip)) 
 (.seq (.ops [.grp none [⟨some 11, none, .move (.tmp 0), []⟩, ⟨some 12, none, .move (.tmp 1), []⟩, ⟨some 13, none, .faddr 0 (.tmp 5), []⟩, ⟨some 14, none, .load none (.tmp 13), []⟩, ⟨some 15, none, .call 55 #[.tmp 11, .tmp 12, .tmp 14], []⟩]]) 
 (.seq (.ops [.grp none [⟨some 16, none, .move (.tmp 0), []⟩, ⟨some 17, none, .nonnil (.tmp 16), []⟩, ⟨some 18, none, .faddr 0 (.tmp 17), []⟩, ⟨some 19, none, .load none (.tmp 18), []⟩, ⟨some 20, none, .move (.tmp 1), []⟩, ⟨some 21, none, .iaddr 1 (.tmp 19) (.tmp 20), []⟩, ⟨some 22, none, .load none (.tmp 21), []⟩, ⟨some 23, none, .load (some 5) (.tmp 5), []⟩, ⟨some 24, none, .call 62 #[.tmp 22, .tmp 23], []⟩, ⟨some 6, none, .move (.tmp 24), []⟩]]) .ret)))⟩
theorem low57 : lowG Try.prog 57 = some g57 := by kernel_rfl

def g58 : GFn :=
 ⟨31, [⟨8, some (some 5)⟩, ⟨9, none⟩], .seq (.ops [.grp none [⟨some 8, none, .zero 31 #[.int .i64 0, .int .i64 0, .int .i64 0, .int .i64 0, .bool false], []⟩, ⟨some 9, none, .move (.const (.bool false)), []⟩]]) 
 (.seq 
 (.seq (.ops [.grp none [⟨some 10, none, .move (.tmp 0), []⟩, ⟨some 11, none, .move (.tmp 1), []⟩, ⟨some 12, none, .call 54 #[.tmp 10, .tmp 11], []⟩, ⟨some 13, none, .un .not (.tmp 12), []⟩]]) 
 (.cond (.tmp 13) 
 (.seq (.ops [.grp none [⟨some 14, none, .build #[(0, 1), (1, 1), (2, 1), (3, 1), (4, 1)] #[.int .i64 0, .int .i64 0, .int .i64 0, .int .i64 0, .bool false] [], []⟩, ⟨none, none, .store 5 (.tmp 8) (.tmp 14), []⟩, ⟨some 9, none, .move (.const (.bool false)), []⟩]]) .ret) .skip)) 
 (.seq (.ops [.grp none [⟨some 15, none, .move (.tmp 0), []⟩, ⟨some 16, none, .move (.tmp 1), []⟩, ⟨some 17, none, .move (.tmp 2), []⟩, ⟨some 18, none, .call 55 #[.tmp 15, .tmp 16, .tmp 17], []⟩]]) 
 (.seq (.ops [.grp none [⟨some 19, none, .move (.tmp 0), []⟩, ⟨some 20, none, .nonnil (.tmp 19), []⟩, ⟨some 21, none, .faddr 0 (.tmp 20), []⟩, ⟨some 22, none, .load none (.tmp 21), []⟩, ⟨some 23, none, .move (.tmp 1), []⟩, ⟨some 24, none, .iaddr 1 (.tmp 22) (.tmp 23), []⟩, ⟨some 25, none, .load none (.tmp 24), []⟩, ⟨some 26, none, .move (.tmp 2), []⟩, ⟨some 27, none, .move (.tmp 3), []⟩, ⟨some 28, none, .call 17 #[.tmp 25, .tmp 26, .tmp 27], []⟩, ⟨some 29, none, .extract (.tmp 28) 0, []⟩, ⟨some 30, none, .extract (.tmp 28) 1, []⟩, ⟨none, none, .store 5 (.tmp 8) (.tmp 29), []⟩, ⟨some 9, none, .move (.tmp 30), []⟩]]) .ret)))⟩
theorem low58 : lowG Try.prog 58 = some g58 := by kernel_rfl

def g59 : GFn :=
 ⟨31, [], .seq (.ops [.grp none [⟨some 8, none, .move (.tmp 3), []⟩, ⟨some 9, none, .bin .geq 3 (.tmp 8) (.const (.int .i64 1)), []⟩, ⟨some 10, none, .move (.tmp 9), []⟩],
  .grp (some (some 10, true)) [⟨some 11, none, .move (.tmp 1), []⟩, ⟨some 12, none, .bin .geq 3 (.tmp 11) (.const (.int .i64 0)), []⟩],
  .grp none [⟨some 13, none, .pick (.tmp 10) (.tmp 12) (.const (.bool false)), []⟩]]) 
 (.cond (.tmp 13) (.ops [.grp none [⟨some 14, none, .move (.tmp 0), []⟩, ⟨some 15, none, .move (.tmp 0), []⟩, ⟨some 16, none, .nonnil (.tmp 15), []⟩, ⟨some 17, none, .faddr 1 (.tmp 16), []⟩, ⟨some 18, none, .load none (.tmp 17), []⟩, ⟨some 19, none, .move (.tmp 1), []⟩, ⟨some 20, none, .move (.tmp 2), []⟩, ⟨some 21, none, .move (.tmp 3), []⟩, ⟨some 22, none, .move (.tmp 0), []⟩, ⟨some 23, none, .move (.tmp 1), []⟩, ⟨some 24, none, .call 67 #[.tmp 22, .tmp 23], [⟨some 18, none, .load none (.tmp 17)⟩]⟩, ⟨some 25, none, .bin .add 3 (.tmp 24) (.const (.int .i64 1)), []⟩, ⟨some 26, none, .build #[(0, 1), (1, 1), (2, 1), (3, 1)] #[.int .i64 0, .int .i64 0, .int .i64 0, .int .i64 0] [(0, .tmp 19), (1, .tmp 20), (2, .tmp 21), (3, .tmp 25)], []⟩, ⟨some 27, none, .row 117 4 1 #[.int .i64 0, .int .i64 0, .int .i64 0, .int .i64 0] [(0, .tmp 26)], [⟨some 18, none, .load none (.tmp 17)⟩]⟩, ⟨some 28, none, .append 117 4 32 (.tmp 18) (.tmp 27), []⟩, ⟨some 29, none, .nonnil (.tmp 14), []⟩, ⟨some 30, none, .faddr 1 (.tmp 29), []⟩, ⟨none, none, .store 1 (.tmp 30) (.tmp 28), []⟩]]) .skip)⟩
theorem low59 : lowG Try.prog 59 = some g59 := by kernel_rfl

def g60 : GFn :=
 ⟨38, [], .seq (.ops [.grp none [⟨some 4, none, .move (.const (.int .i64 0)), []⟩]]) 
 (.block 0 
 (.loop 
 (.seq 
 (.seq (.ops [.grp none [⟨some 5, none, .move (.tmp 4), []⟩, ⟨some 6, none, .move (.tmp 0), []⟩, ⟨some 7, none, .nonnil (.tmp 6), []⟩, ⟨some 8, none, .faddr 0 (.tmp 7), []⟩, ⟨some 9, none, .load none (.tmp 8), []⟩, ⟨some 10, none, .len (.tmp 9), []⟩, ⟨some 11, none, .bin .lss 3 (.tmp 5) (.tmp 10), []⟩]]) 
 (.cond (.tmp 11) .skip (.exit 0))) 
 (.seq 
 (.block 1 
 (.seq (.ops [.grp none [⟨some 14, none, .move (.tmp 0), []⟩, ⟨some 15, none, .nonnil (.tmp 14), []⟩, ⟨some 16, none, .faddr 0 (.tmp 15), []⟩, ⟨some 17, none, .load none (.tmp 16), []⟩, ⟨some 18, none, .move (.tmp 4), []⟩, ⟨some 19, none, .iaddr 1 (.tmp 17) (.tmp 18), []⟩, ⟨some 20, none, .load none (.tmp 19), []⟩, ⟨some 21, none, .move (.tmp 1), []⟩, ⟨some 22, none, .call 23 #[.tmp 20, .tmp 21, .const (.int .i64 0), .const (.int .i64 4096)], []⟩]]) (.ops [.grp none [⟨some 23, none, .move (.tmp 0), []⟩, ⟨some 24, none, .move (.tmp 0), []⟩, ⟨some 25, none, .nonnil (.tmp 24), []⟩, ⟨some 26, none, .faddr 2 (.tmp 25), []⟩, ⟨some 27, none, .load none (.tmp 26), []⟩, ⟨some 28, none, .move (.tmp 4), []⟩, ⟨some 29, none, .move (.tmp 1), []⟩, ⟨some 30, none, .move (.tmp 0), []⟩, ⟨some 31, none, .move (.tmp 1), []⟩, ⟨some 32, none, .call 67 #[.tmp 30, .tmp 31], [⟨some 27, none, .load none (.tmp 26)⟩]⟩, ⟨some 33, none, .build #[(0, 1), (1, 1), (2, 1)] #[.int .i64 0, .int .i64 0, .int .i64 0] [(0, .tmp 28), (1, .tmp 29), (2, .tmp 32)], []⟩, ⟨some 34, none, .row 122 3 1 #[.int .i64 0, .int .i64 0, .int .i64 0] [(0, .tmp 33)], [⟨some 27, none, .load none (.tmp 26)⟩]⟩, ⟨some 35, none, .append 122 3 24 (.tmp 27) (.tmp 34), []⟩, ⟨some 36, none, .nonnil (.tmp 23), []⟩, ⟨some 37, none, .faddr 2 (.tmp 36), []⟩, ⟨none, none, .store 1 (.tmp 37) (.tmp 35), []⟩]]))) (.ops [.grp none [⟨some 12, none, .move (.tmp 4), []⟩, ⟨some 13, none, .bin .add 3 (.tmp 12) (.const (.int .i64 1)), []⟩, ⟨some 4, none, .move (.tmp 13), []⟩]])))))⟩
theorem low60 : lowG Try.prog 60 = some g60 := by kernel_rfl

def g61 : GFn :=
 ⟨20, [⟨6, none⟩], .seq (.ops [.grp none [⟨some 6, none, .move (.const (.int .i64 0)), []⟩]]) 
 (.seq 
 (.seq (.ops [.grp none [⟨some 7, none, .move (.tmp 0), []⟩, ⟨some 8, none, .move (.tmp 1), []⟩, ⟨some 9, none, .call 54 #[.tmp 7, .tmp 8], []⟩, ⟨some 10, none, .un .not (.tmp 9), []⟩]]) 
 (.cond (.tmp 10) 
 (.seq (.ops [.grp none [⟨some 6, none, .move (.const (.int .i64 3)), []⟩]]) .ret) .skip)) 
 (.seq (.ops [.grp none [⟨some 11, none, .move (.tmp 0), []⟩, ⟨some 12, none, .nonnil (.tmp 11), []⟩, ⟨some 13, none, .faddr 0 (.tmp 12), []⟩, ⟨some 14, none, .load none (.tmp 13), []⟩, ⟨some 15, none, .move (.tmp 1), []⟩, ⟨some 16, none, .iaddr 1 (.tmp 14) (.tmp 15), []⟩, ⟨some 17, none, .load none (.tmp 16), []⟩, ⟨some 18, none, .move (.tmp 2), []⟩, ⟨some 19, none, .call 63 #[.tmp 17, .tmp 18], []⟩, ⟨some 6, none, .move (.tmp 19), []⟩]]) .ret))⟩
theorem low61 : lowG Try.prog 61 = some g61 := by kernel_rfl

def g66 : GFn :=
 ⟨23, [], .seq (.ops [.grp none [⟨some 6, none, .move (.tmp 0), []⟩, ⟨some 7, none, .len (.tmp 6), []⟩, ⟨some 8, none, .move (.const (.int .i64 0)), []⟩]]) 
 (.block 0 
 (.loop 
 (.seq (.ops [.grp none [⟨some 9, none, .bin .lss 3 (.tmp 8) (.tmp 7), []⟩]]) 
 (.seq 
 (.cond (.tmp 9) .skip (.exit 0)) 
 (.seq 
 (.block 1 
 (.seq (.ops [.grp none [⟨some 10, none, .iaddr 2 (.tmp 6) (.tmp 8), []⟩, ⟨some 11, none, .load (some 2) (.tmp 10), []⟩, ⟨some 5, none, .zero 107 #[.int .i64 0, .int .i64 0], []⟩, ⟨none, none, .store 2 (.tmp 5) (.tmp 11), []⟩]]) (.ops [.grp none [⟨some 12, none, .load none (.tmp 1), []⟩, ⟨some 13, none, .nonnil (.tmp 12), []⟩, ⟨some 14, none, .faddr 0 (.tmp 13), []⟩, ⟨some 15, none, .load none (.tmp 14), []⟩, ⟨some 16, none, .load none (.tmp 2), []⟩, ⟨some 17, none, .faddr 0 (.tmp 5), []⟩, ⟨some 18, none, .load none (.tmp 17), []⟩, ⟨some 19, none, .faddr 1 (.tmp 5), []⟩, ⟨some 20, none, .load none (.tmp 19), []⟩, ⟨some 21, none, .call 22 #[.tmp 15, .tmp 16, .tmp 18, .tmp 20], []⟩]]))) (.ops [.grp none [⟨some 22, none, .bin .add 3 (.tmp 8) (.const (.int .i64 1)), []⟩, ⟨some 8, none, .move (.tmp 22), []⟩]]))))))⟩
theorem low66 : lowG Try.prog 66 = some g66 := by kernel_rfl

def g67 : GFn :=
 ⟨29, [⟨4, none⟩], .seq (.ops [.grp none [⟨some 4, none, .move (.const (.int .i64 0)), []⟩]]) 
 (.seq (.ops [.grp none [⟨some 5, none, .move (.const (.int .i64 0)), []⟩]]) 
 (.seq 
 (.seq (.ops [.grp none [⟨some 6, none, .move (.const (.int .i64 0)), []⟩]]) 
 (.block 0 
 (.loop 
 (.seq 
 (.seq (.ops [.grp none [⟨some 7, none, .move (.tmp 6), []⟩, ⟨some 8, none, .move (.tmp 0), []⟩, ⟨some 9, none, .nonnil (.tmp 8), []⟩, ⟨some 10, none, .faddr 1 (.tmp 9), []⟩, ⟨some 11, none, .load none (.tmp 10), []⟩, ⟨some 12, none, .len (.tmp 11), []⟩, ⟨some 13, none, .bin .lss 3 (.tmp 7) (.tmp 12), []⟩]]) 
 (.cond (.tmp 13) .skip (.exit 0))) 
 (.seq 
 (.block 1 
 (.seq (.ops [.grp none [⟨some 16, none, .move (.tmp 0), []⟩, ⟨some 17, none, .nonnil (.tmp 16), []⟩, ⟨some 18, none, .faddr 1 (.tmp 17), []⟩, ⟨some 19, none, .load none (.tmp 18), []⟩, ⟨some 20, none, .move (.tmp 6), []⟩, ⟨some 21, none, .iaddr 4 (.tmp 19) (.tmp 20), []⟩, ⟨some 22, none, .faddr 0 (.tmp 21), []⟩, ⟨some 23, none, .load none (.tmp 22), []⟩, ⟨some 24, none, .move (.tmp 1), []⟩, ⟨some 25, none, .bin .eql 3 (.tmp 23) (.tmp 24), []⟩]]) 
 (.cond (.tmp 25) (.ops [.grp none [⟨some 26, none, .move (.tmp 5), []⟩, ⟨some 27, none, .bin .add 3 (.tmp 26) (.const (.int .i64 1)), []⟩, ⟨some 5, none, .move (.tmp 27), []⟩]]) .skip))) (.ops [.grp none [⟨some 14, none, .move (.tmp 6), []⟩, ⟨some 15, none, .bin .add 3 (.tmp 14) (.const (.int .i64 1)), []⟩, ⟨some 6, none, .move (.tmp 15), []⟩]])))))) 
 (.seq (.ops [.grp none [⟨some 28, none, .move (.tmp 5), []⟩, ⟨some 4, none, .move (.tmp 28), []⟩]]) .ret)))⟩
theorem low67 : lowG Try.prog 67 = some g67 := by kernel_rfl

def g68 : GFn :=
 ⟨49, [⟨6, none⟩], .seq (.ops [.grp none [⟨some 6, none, .move (.const (.int .i64 0)), []⟩]]) 
 (.seq (.ops [.grp none [⟨some 7, none, .move (.const (.int .i64 0)), []⟩]]) 
 (.seq 
 (.seq (.ops [.grp none [⟨some 8, none, .move (.const (.int .i64 0)), []⟩]]) 
 (.block 0 
 (.loop 
 (.seq 
 (.seq (.ops [.grp none [⟨some 9, none, .move (.tmp 8), []⟩, ⟨some 10, none, .move (.tmp 0), []⟩, ⟨some 11, none, .nonnil (.tmp 10), []⟩, ⟨some 12, none, .faddr 2 (.tmp 11), []⟩, ⟨some 13, none, .load none (.tmp 12), []⟩, ⟨some 14, none, .len (.tmp 13), []⟩, ⟨some 15, none, .bin .lss 3 (.tmp 9) (.tmp 14), []⟩]]) 
 (.cond (.tmp 15) .skip (.exit 0))) 
 (.seq 
 (.block 1 
 (.seq (.ops [.grp none [⟨some 18, none, .move (.tmp 0), []⟩, ⟨some 19, none, .nonnil (.tmp 18), []⟩, ⟨some 20, none, .faddr 2 (.tmp 19), []⟩, ⟨some 21, none, .load none (.tmp 20), []⟩, ⟨some 22, none, .move (.tmp 8), []⟩, ⟨some 23, none, .iaddr 3 (.tmp 21) (.tmp 22), []⟩, ⟨some 24, none, .faddr 0 (.tmp 23), []⟩, ⟨some 25, none, .load none (.tmp 24), []⟩, ⟨some 26, none, .move (.tmp 1), []⟩, ⟨some 27, none, .bin .eql 3 (.tmp 25) (.tmp 26), []⟩, ⟨some 28, none, .move (.tmp 27), []⟩],
  .grp (some (some 28, true)) [⟨some 29, none, .move (.tmp 0), []⟩, ⟨some 30, none, .nonnil (.tmp 29), []⟩, ⟨some 31, none, .faddr 2 (.tmp 30), []⟩, ⟨some 32, none, .load none (.tmp 31), []⟩, ⟨some 33, none, .move (.tmp 8), []⟩, ⟨some 34, none, .iaddr 3 (.tmp 32) (.tmp 33), []⟩, ⟨some 35, none, .faddr 1 (.tmp 34), []⟩, ⟨some 36, none, .load none (.tmp 35), []⟩, ⟨some 37, none, .move (.tmp 2), []⟩, ⟨some 38, none, .bin .eql 3 (.tmp 36) (.tmp 37), []⟩],
  .grp none [⟨some 39, none, .pick (.tmp 28) (.tmp 38) (.const (.bool false)), []⟩]]) 
 (.cond (.tmp 39) (.ops [.grp none [⟨some 40, none, .move (.tmp 0), []⟩, ⟨some 41, none, .nonnil (.tmp 40), []⟩, ⟨some 42, none, .faddr 2 (.tmp 41), []⟩, ⟨some 43, none, .load none (.tmp 42), []⟩, ⟨some 44, none, .move (.tmp 8), []⟩, ⟨some 45, none, .iaddr 3 (.tmp 43) (.tmp 44), []⟩, ⟨some 46, none, .faddr 2 (.tmp 45), []⟩, ⟨some 47, none, .load none (.tmp 46), []⟩, ⟨some 7, none, .move (.tmp 47), []⟩]]) .skip))) (.ops [.grp none [⟨some 16, none, .move (.tmp 8), []⟩, ⟨some 17, none, .bin .add 3 (.tmp 16) (.const (.int .i64 1)), []⟩, ⟨some 8, none, .move (.tmp 17), []⟩]])))))) 
 (.seq (.ops [.grp none [⟨some 48, none, .move (.tmp 7), []⟩, ⟨some 6, none, .move (.tmp 48), []⟩]]) .ret)))⟩
theorem low68 : lowG Try.prog 68 = some g68 := by kernel_rfl

end Go.Proofs.Ytplcocifndpplaa
