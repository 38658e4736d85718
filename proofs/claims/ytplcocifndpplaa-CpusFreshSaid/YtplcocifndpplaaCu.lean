/-
  CpusFresh: the ideal walk.
-/
import Derived.Test.YtplcocifndpplaaCw
namespace Go.Proofs.Ytplcocifndpplaa
open Go Go.Ideal

def zeroA : ActC := ⟨0, 0, 0, 0, 0, zeroL⟩
@[simp] theorem put_act (c a : ActC) : putCells c.cells 0 a.cells.toList = a.cells := by simp [ActC.cells]
@[simp] theorem zeroA_size : zeroA.cells.size = 10 := rfl
def t9d : GC := (.seq (.ops [.grp none [⟨some 125, none, .move (.tmp 10), []⟩, ⟨some 12, none, .move (.tmp 125), []⟩]]) 
 (.block 5 
 (.loop 
 (.seq 
 (.seq (.ops [.grp none [⟨some 126, none, .move (.tmp 12), []⟩, ⟨some 127, none, .move (.tmp 6), []⟩, ⟨some 128, none, .bin .lss 3 (.tmp 126) (.tmp 127), []⟩]]) 
 (.cond (.tmp 128) .skip (.exit 5))) 
 (.seq 
 (.block 6 
 (.seq (.ops [.grp none [⟨some 131, none, .move (.tmp 0), []⟩, ⟨some 132, none, .move (.tmp 12), []⟩, ⟨some 133, none, .iaddr 10 (.tmp 131) (.tmp 132), []⟩, ⟨some 134, none, .load (some 10) (.tmp 133), []⟩, ⟨some 13, none, .zero 62 zeroA.cells, []⟩, ⟨none, none, .store 10 (.tmp 13) (.tmp 134), []⟩]]) 
 (.seq (.ops [.grp none [⟨some 135, none, .faddr 0 (.tmp 13), []⟩, ⟨some 136, none, .load none (.tmp 135), []⟩, ⟨some 137, none, .bin .gtr 3 (.tmp 136) (.const (.int .i64 4)), []⟩, ⟨some 138, none, .move (.tmp 137), []⟩],
  .grp (some (some 138, true)) [⟨some 139, none, .faddr 0 (.tmp 13), []⟩, ⟨some 140, none, .load none (.tmp 139), []⟩, ⟨some 141, none, .bin .lss 3 (.tmp 140) (.const (.int .i64 8)), []⟩],
  .grp none [⟨some 142, none, .pick (.tmp 138) (.tmp 141) (.const (.bool false)), []⟩, ⟨some 143, none, .move (.tmp 142), []⟩],
  .grp (some (some 143, true)) [⟨some 144, none, .faddr 2 (.tmp 13), []⟩, ⟨some 145, none, .load none (.tmp 144), []⟩, ⟨some 146, none, .faddr 0 (.tmp 8), []⟩, ⟨some 147, none, .load none (.tmp 146), []⟩, ⟨some 148, none, .bin .eql 3 (.tmp 145) (.tmp 147), []⟩],
  .grp none [⟨some 149, none, .pick (.tmp 143) (.tmp 148) (.const (.bool false)), []⟩, ⟨some 150, none, .move (.tmp 149), []⟩],
  .grp (some (some 150, true)) [⟨some 151, none, .faddr 4 (.tmp 13), []⟩, ⟨some 152, none, .load none (.tmp 151), []⟩, ⟨some 153, none, .bin .gtr 3 (.tmp 152) (.const (.int .i64 0)), []⟩],
  .grp none [⟨some 154, none, .pick (.tmp 150) (.tmp 153) (.const (.bool false)), []⟩, ⟨some 155, none, .move (.tmp 154), []⟩],
  .grp (some (some 155, true)) [⟨some 156, none, .faddr 1 (.tmp 8), []⟩, ⟨some 157, none, .load none (.tmp 156), []⟩, ⟨some 158, none, .faddr 3 (.tmp 13), []⟩, ⟨some 159, none, .load none (.tmp 158), []⟩, ⟨some 160, none, .bin .geq 3 (.tmp 157) (.tmp 159), []⟩],
  .grp none [⟨some 161, none, .pick (.tmp 155) (.tmp 160) (.const (.bool false)), []⟩, ⟨some 162, none, .move (.tmp 161), []⟩],
  .grp (some (some 162, true)) [⟨some 163, none, .faddr 3 (.tmp 13), []⟩, ⟨some 164, none, .load none (.tmp 163), []⟩, ⟨some 165, none, .bin .geq 3 (.tmp 164) (.const (.int .i64 0)), []⟩],
  .grp none [⟨some 166, none, .pick (.tmp 162) (.tmp 165) (.const (.bool false)), []⟩, ⟨some 167, none, .move (.tmp 166), []⟩],
  .grp (some (some 167, true)) [⟨some 168, none, .faddr 1 (.tmp 8), []⟩, ⟨some 169, none, .load none (.tmp 168), []⟩, ⟨some 170, none, .faddr 3 (.tmp 13), []⟩, ⟨some 171, none, .load none (.tmp 170), []⟩, ⟨some 172, none, .bin .sub 3 (.tmp 169) (.tmp 171), []⟩, ⟨some 173, none, .faddr 4 (.tmp 13), []⟩, ⟨some 174, none, .load none (.tmp 173), []⟩, ⟨some 175, none, .bin .lss 3 (.tmp 172) (.tmp 174), []⟩],
  .grp none [⟨some 176, none, .pick (.tmp 167) (.tmp 175) (.const (.bool false)), []⟩, ⟨some 177, none, .move (.tmp 176), []⟩],
  .grp (some (some 177, false)) [⟨some 178, none, .faddr 0 (.tmp 13), []⟩, ⟨some 179, none, .load none (.tmp 178), []⟩, ⟨some 180, none, .bin .eql 3 (.tmp 179) (.const (.int .i64 9)), []⟩, ⟨some 181, none, .move (.tmp 180), []⟩],
  .grp (some (some 181, true)) [⟨some 182, none, .faddr 2 (.tmp 13), []⟩, ⟨some 183, none, .load none (.tmp 182), []⟩, ⟨some 184, none, .faddr 0 (.tmp 8), []⟩, ⟨some 185, none, .load none (.tmp 184), []⟩, ⟨some 186, none, .bin .eql 3 (.tmp 183) (.tmp 185), []⟩],
  .grp (some (some 177, false)) [⟨some 187, none, .pick (.tmp 181) (.tmp 186) (.const (.bool false)), []⟩],
  .grp none [⟨some 188, none, .pick (.tmp 177) (.const (.bool true)) (.tmp 187), []⟩]]) 
 (.cond (.tmp 188) 
 (.seq (.ops [.grp none [⟨some 2, none, .move (.const (.bool false)), []⟩]]) .ret) .skip)))) (.ops [.grp none [⟨some 129, none, .move (.tmp 12), []⟩, ⟨some 130, none, .bin .add 3 (.tmp 129) (.const (.int .i64 1)), []⟩, ⟨some 12, none, .move (.tmp 130), []⟩]]))))))
def t9c : GC := (.seq 
 (.seq (.ops [.grp none [⟨some 114, none, .move (.tmp 10), []⟩, ⟨some 115, none, .bin .lss 3 (.tmp 114) (.const (.int .i64 0)), []⟩, ⟨some 116, none, .move (.tmp 115), []⟩],
  .grp (some (some 116, false)) [⟨some 117, none, .load (some 5) (.tmp 8), []⟩, ⟨some 118, none, .faddr 2 (.tmp 7), []⟩, ⟨some 119, none, .load none (.tmp 118), []⟩, ⟨some 120, none, .faddr 3 (.tmp 7), []⟩, ⟨some 121, none, .load none (.tmp 120), []⟩, ⟨some 122, none, .call 20 #[.tmp 117, .tmp 119, .tmp 121], []⟩, ⟨some 123, none, .un .not (.tmp 122), []⟩],
  .grp none [⟨some 124, none, .pick (.tmp 116) (.const (.bool true)) (.tmp 123), []⟩]]) 
 (.cond (.tmp 124) 
 (.seq (.ops [.grp none [⟨some 2, none, .move (.const (.bool false)), []⟩]]) .ret) .skip)) 
 t9d)
def t9 : GC := (.seq 
 (.seq (.ops [.grp none [⟨some 84, none, .move (.tmp 9), []⟩, ⟨some 85, none, .un .not (.tmp 84), []⟩]]) 
 (.cond (.tmp 85) (.exit 1) .skip)) 
 (.seq (.ops [.grp none [⟨some 10, none, .move (.const (.int .i64 (-1))), []⟩]]) 
 (.seq 
 (.seq (.ops [.grp none [⟨some 11, none, .move (.const (.int .i64 0)), []⟩]]) 
 (.block 3 
 (.loop 
 (.seq 
 (.seq (.ops [.grp none [⟨some 86, none, .move (.tmp 11), []⟩, ⟨some 87, none, .move (.tmp 5), []⟩, ⟨some 88, none, .len (.tmp 87), []⟩, ⟨some 89, none, .bin .lss 3 (.tmp 86) (.tmp 88), []⟩]]) 
 (.cond (.tmp 89) .skip (.exit 3))) 
 (.seq 
 (.block 4 
 (.seq (.ops [.grp none [⟨some 92, none, .move (.tmp 5), []⟩, ⟨some 93, none, .move (.tmp 11), []⟩, ⟨some 94, none, .iaddr 7 (.tmp 92) (.tmp 93), []⟩, ⟨some 95, none, .faddr 0 (.tmp 94), []⟩, ⟨some 96, none, .load none (.tmp 95), []⟩, ⟨some 97, none, .faddr 1 (.tmp 7), []⟩, ⟨some 98, none, .load none (.tmp 97), []⟩, ⟨some 99, none, .bin .eql 3 (.tmp 96) (.tmp 98), []⟩, ⟨some 100, none, .move (.tmp 99), []⟩],
  .grp (some (some 100, true)) [⟨some 101, none, .move (.tmp 5), []⟩, ⟨some 102, none, .move (.tmp 11), []⟩, ⟨some 103, none, .iaddr 7 (.tmp 101) (.tmp 102), []⟩, ⟨some 104, none, .faddr 2 (.tmp 103), []⟩, ⟨some 105, none, .load (some 5) (.tmp 104), []⟩, ⟨some 106, none, .load (some 5) (.tmp 8), []⟩, ⟨some 107, none, .bin .eql 31 (.tmp 105) (.tmp 106), []⟩],
  .grp none [⟨some 108, none, .pick (.tmp 100) (.tmp 107) (.const (.bool false)), []⟩]]) 
 (.cond (.tmp 108) (.ops [.grp none [⟨some 109, none, .move (.tmp 5), []⟩, ⟨some 110, none, .move (.tmp 11), []⟩, ⟨some 111, none, .iaddr 7 (.tmp 109) (.tmp 110), []⟩, ⟨some 112, none, .faddr 1 (.tmp 111), []⟩, ⟨some 113, none, .load none (.tmp 112), []⟩, ⟨some 10, none, .move (.tmp 113), []⟩]]) .skip))) (.ops [.grp none [⟨some 90, none, .move (.tmp 11), []⟩, ⟨some 91, none, .bin .add 3 (.tmp 90) (.const (.int .i64 1)), []⟩, ⟨some 11, none, .move (.tmp 91), []⟩]])))))) 
 t9c)))
theorem g9_eq : g9 = ⟨213, [⟨2, none⟩], .seq (.ops [.grp none [⟨some 2, none, .move (.const (.bool false)), []⟩]]) 
 (.seq (.ops [.grp none [⟨some 15, none, .call 27 #[.const (.int .i64 3), .const (.int .i64 5)], []⟩, ⟨some 14, none, .move (.tmp 15), []⟩, ⟨some 16, none, .extract (.tmp 14) 0, []⟩, ⟨some 17, none, .extract (.tmp 14) 1, []⟩, ⟨some 3, none, .move (.tmp 16), []⟩, ⟨some 4, none, .move (.tmp 17), []⟩]]) 
 (.seq 
 (.seq (.ops [.grp none [⟨some 18, none, .move (.tmp 4), []⟩, ⟨some 19, none, .bin .neq 47 (.tmp 18) (.const (.int .i64 0)), []⟩, ⟨some 20, none, .move (.tmp 19), []⟩],
  .grp (some (some 20, false)) [⟨some 21, none, .move (.tmp 3), []⟩, ⟨some 22, none, .bin .eql 57 (.tmp 21) (.const (.pointer none)), []⟩],
  .grp none [⟨some 23, none, .pick (.tmp 20) (.const (.bool true)) (.tmp 22), []⟩, ⟨some 24, none, .move (.tmp 23), []⟩],
  .grp (some (some 24, false)) [⟨some 25, none, .call 28 #[], []⟩, ⟨some 26, none, .un .not (.tmp 25), []⟩],
  .grp none [⟨some 27, none, .pick (.tmp 24) (.const (.bool true)) (.tmp 26), []⟩]]) 
 (.cond (.tmp 27) 
 (.seq (.ops [.grp none [⟨some 2, none, .move (.const (.bool false)), []⟩]]) .ret) .skip)) 
 (.seq (.ops [.grp none [⟨some 5, none, .move (.const (.slice none 0 0)), []⟩]]) 
 (.seq 
 (.seq (.ops [.grp none [⟨some 6, none, .move (.const (.int .i64 0)), []⟩]]) 
 (.block 0 
 (.loop 
 (.seq 
 (.seq (.ops [.grp none [⟨some 28, none, .move (.tmp 6), []⟩, ⟨some 29, none, .move (.tmp 0), []⟩, ⟨some 30, none, .len (.tmp 29), []⟩, ⟨some 31, none, .bin .lss 3 (.tmp 28) (.tmp 30), []⟩, ⟨some 32, none, .move (.tmp 31), []⟩],
  .grp (some (some 32, true)) [⟨some 33, none, .move (.tmp 6), []⟩, ⟨some 34, none, .bin .lss 3 (.tmp 33) (.const (.int .i64 60)), []⟩],
  .grp none [⟨some 35, none, .pick (.tmp 32) (.tmp 34) (.const (.bool false)), []⟩]]) 
 (.cond (.tmp 35) .skip (.exit 0))) 
 (.seq 
 (.block 1 
 (.seq (.ops [.grp none [⟨some 38, none, .move (.tmp 0), []⟩, ⟨some 39, none, .move (.tmp 6), []⟩, ⟨some 40, none, .iaddr 10 (.tmp 38) (.tmp 39), []⟩, ⟨some 41, none, .load (some 10) (.tmp 40), []⟩, ⟨some 7, none, .zero 62 #[.int .i64 0, .int .i64 0, .int .i64 0, .int .i64 0, .int .i64 0, .int .i64 0, .int .i64 0, .int .i64 0, .int .i64 0, .bool false], []⟩, ⟨none, none, .store 10 (.tmp 7) (.tmp 41), []⟩]]) 
 (.seq (.ops [.grp none [⟨some 42, none, .faddr 0 (.tmp 7), []⟩, ⟨some 43, none, .load none (.tmp 42), []⟩]]) 
 (.block 2 
 (.seq 
 (.seq (.ops [.grp none [⟨some 51, none, .bin .eql 3 (.tmp 43) (.const (.int .i64 0)), []⟩, ⟨some 50, none, .move (.tmp 51), []⟩]]) 
 (.cond (.tmp 50) .skip 
 (.seq (.ops [.grp none [⟨some 52, none, .bin .eql 3 (.tmp 43) (.const (.int .i64 1)), []⟩, ⟨some 50, none, .move (.tmp 52), []⟩]]) 
 (.cond (.tmp 50) .skip (.ops [.grp none [⟨some 53, none, .bin .eql 3 (.tmp 43) (.const (.int .i64 2)), []⟩, ⟨some 50, none, .move (.tmp 53), []⟩]]))))) 
 (.cond (.tmp 50) 
 (.seq (.ops [.grp none [⟨some 54, none, .move (.tmp 3), []⟩, ⟨some 55, none, .faddr 1 (.tmp 7), []⟩, ⟨some 56, none, .load none (.tmp 55), []⟩, ⟨some 57, none, .faddr 5 (.tmp 7), []⟩, ⟨some 58, none, .load (some 5) (.tmp 57), []⟩, ⟨some 59, none, .call 29 #[.tmp 54, .tmp 56, .tmp 58], []⟩, ⟨some 60, none, .bin .eql 47 (.tmp 59) (.const (.int .i64 0)), []⟩]]) 
 (.cond (.tmp 60) (.ops [.grp none [⟨some 61, none, .move (.tmp 5), []⟩, ⟨some 62, none, .faddr 1 (.tmp 7), []⟩, ⟨some 63, none, .load none (.tmp 62), []⟩, ⟨some 64, none, .move (.tmp 6), []⟩, ⟨some 65, none, .faddr 5 (.tmp 7), []⟩, ⟨some 66, none, .load (some 5) (.tmp 65), []⟩, ⟨some 67, none, .build #[(0, 1), (1, 1), (2, 5)] #[.int .i64 0, .int .i64 0, .int .i64 0, .int .i64 0, .int .i64 0, .int .i64 0, .bool false] [(0, .tmp 63), (1, .tmp 64), (2, .tmp 66)], []⟩, ⟨some 68, none, .row 65 7 1 #[.int .i64 0, .int .i64 0, .int .i64 0, .int .i64 0, .int .i64 0, .int .i64 0, .bool false] [(0, .tmp 67)], []⟩, ⟨some 69, none, .append 65 7 56 (.tmp 61) (.tmp 68), []⟩, ⟨some 5, none, .move (.tmp 69), []⟩]]) .skip)) 
 (.seq 
 (.seq (.ops [.grp none [⟨some 71, none, .bin .eql 3 (.tmp 43) (.const (.int .i64 3)), []⟩, ⟨some 70, none, .move (.tmp 71), []⟩]]) 
 (.cond (.tmp 70) .skip (.ops [.grp none [⟨some 72, none, .bin .eql 3 (.tmp 43) (.const (.int .i64 4)), []⟩, ⟨some 70, none, .move (.tmp 72), []⟩]]))) 
 (.cond (.tmp 70) 
 (.seq (.ops [.grp none [⟨some 74, none, .move (.tmp 3), []⟩, ⟨some 75, none, .faddr 1 (.tmp 7), []⟩, ⟨some 76, none, .load none (.tmp 75), []⟩, ⟨some 77, none, .faddr 2 (.tmp 7), []⟩, ⟨some 78, none, .load none (.tmp 77), []⟩, ⟨some 79, none, .faddr 3 (.tmp 7), []⟩, ⟨some 80, none, .load none (.tmp 79), []⟩, ⟨some 81, none, .call 30 #[.tmp 74, .tmp 76, .tmp 78, .tmp 80], []⟩, ⟨some 73, none, .move (.tmp 81), []⟩, ⟨some 82, none, .extract (.tmp 73) 0, []⟩, ⟨some 83, none, .extract (.tmp 73) 1, []⟩, ⟨some 8, none, .zero 31 #[.int .i64 0, .int .i64 0, .int .i64 0, .int .i64 0, .bool false], []⟩, ⟨none, none, .store 5 (.tmp 8) (.tmp 82), []⟩, ⟨some 9, none, .move (.tmp 83), []⟩]]) 
 t9) 
 (.seq 
 (.seq (.ops [.grp none [⟨some 190, none, .bin .eql 3 (.tmp 43) (.const (.int .i64 5)), []⟩, ⟨some 189, none, .move (.tmp 190), []⟩]]) 
 (.cond (.tmp 189) .skip 
 (.seq (.ops [.grp none [⟨some 191, none, .bin .eql 3 (.tmp 43) (.const (.int .i64 6)), []⟩, ⟨some 189, none, .move (.tmp 191), []⟩]]) 
 (.cond (.tmp 189) .skip (.ops [.grp none [⟨some 192, none, .bin .eql 3 (.tmp 43) (.const (.int .i64 7)), []⟩, ⟨some 189, none, .move (.tmp 192), []⟩]]))))) 
 (.cond (.tmp 189) (.ops [.grp none [⟨some 193, none, .move (.tmp 3), []⟩, ⟨some 194, none, .faddr 2 (.tmp 7), []⟩, ⟨some 195, none, .load none (.tmp 194), []⟩, ⟨some 196, none, .faddr 3 (.tmp 7), []⟩, ⟨some 197, none, .load none (.tmp 196), []⟩, ⟨some 198, none, .faddr 4 (.tmp 7), []⟩, ⟨some 199, none, .load none (.tmp 198), []⟩, ⟨some 200, none, .call 31 #[.tmp 193, .tmp 195, .tmp 197, .tmp 199], []⟩]]) 
 (.seq (.ops [.grp none [⟨some 202, none, .bin .eql 3 (.tmp 43) (.const (.int .i64 8)), []⟩, ⟨some 201, none, .move (.tmp 202), []⟩]]) 
 (.cond (.tmp 201) (.ops [.grp none [⟨some 203, none, .move (.tmp 3), []⟩, ⟨some 204, none, .faddr 1 (.tmp 7), []⟩, ⟨some 205, none, .load none (.tmp 204), []⟩, ⟨some 206, none, .call 32 #[.tmp 203, .tmp 205], []⟩]]) 
 (.seq (.ops [.grp none [⟨some 208, none, .bin .eql 3 (.tmp 43) (.const (.int .i64 9)), []⟩, ⟨some 207, none, .move (.tmp 208), []⟩]]) 
 (.cond (.tmp 207) (.ops [.grp none [⟨some 209, none, .move (.tmp 3), []⟩, ⟨some 210, none, .faddr 2 (.tmp 7), []⟩, ⟨some 211, none, .load none (.tmp 210), []⟩, ⟨some 212, none, .call 33 #[.tmp 209, .tmp 211], []⟩]]) (.ops [.grp none [⟨some 44, none, .move (.tmp 3), []⟩, ⟨some 45, none, .faddr 1 (.tmp 7), []⟩, ⟨some 46, none, .load none (.tmp 45), []⟩, ⟨some 47, none, .faddr 4 (.tmp 7), []⟩, ⟨some 48, none, .load none (.tmp 47), []⟩, ⟨some 49, none, .call 34 #[.tmp 44, .tmp 46, .tmp 48], []⟩]]))))))))))))))) (.ops [.grp none [⟨some 36, none, .move (.tmp 6), []⟩, ⟨some 37, none, .bin .add 3 (.tmp 36) (.const (.int .i64 1)), []⟩, ⟨some 6, none, .move (.tmp 37), []⟩]])))))) 
 (.seq (.ops [.grp none [⟨some 2, none, .move (.const (.bool true)), []⟩]]) .ret)))))⟩ := rfl

def EQ (xs : List ActC) : En Nat := ⟨7, 65, fun m => [i64 (actAt xs m).u, i64 m, i64 (actAt xs m).c.s, i64 (actAt xs m).c.p, i64 (actAt xs m).c.o, i64 (actAt xs m).c.f, .bool (actAt xs m).c.w], fun _ => rfl, fun _ v hv => by simp at hv; rcases hv with rfl | rfl | rfl | rfl | rfl | rfl | rfl <;> rfl, by decide⟩
theorem row_q (u m : Int) (c : Line) (w : World) : rowS 65 7 1 #[.int .i64 0, .int .i64 0, .int .i64 0, .int .i64 0, .int .i64 0, .int .i64 0, .bool false] [(0, .agg #[i64 u, i64 m, i64 c.s, i64 c.p, i64 c.o, i64 c.f, .bool c.w])] w = .ret (.slice (some ⟨w.heap.size, 0, none⟩) 1 1, World.push w (.cells #[i64 u, i64 m, i64 c.s, i64 c.p, i64 c.o, i64 c.f, .bool c.w] 65)) := by
  simp [rowS, Instr.fill]
theorem src_q {xs : List ActC} {w : World} {r : Nat} {m : Nat} {t : TypeId} (h : cellsOf? w r = some (#[i64 (actAt xs m).u, i64 m, i64 (actAt xs m).c.s, i64 (actAt xs m).c.p, i64 (actAt xs m).c.o, i64 (actAt xs m).c.f, .bool (actAt xs m).c.w], t, (0, 0))) : SrcE (EQ xs) w (.slice (some ⟨r, 0, none⟩) 1 1) [m] :=
  .inr ⟨r, 0, 1, _, t, (0, 0), rfl, h, by simp [EQ], by simp [EQ, flat]⟩

theorem fresh_run {xs : List ActC} (hx : ∀ y ∈ xs, y.ok) : ∀ q, q ≤ xs.length → FreshAll xs q (runC (newA 3 5) (xs.take q))
  | 0, _ => fun j _ x hx => by simp [runC, newA] at hx
  | q + 1, h => by
    have ih := fresh_run hx q (by omega)
    have hok : (runC (newA 3 5) (xs.take q)).ok (0 + (xs.take q).length) := runC_ok (xs.take q) (newA_ok (by decide) (by decide)) (fun y hy => hx y (List.mem_of_mem_take hy))
    rw [List.take_succ_eq_append_getElem (show q < xs.length by omega), runC_snoc, ← actAt_eq]
    exact fresh_step hok (runC_N _ _) ih


set_option maxRecDepth 20000 in
theorem tail9d {K : Kont} {fuel : Nat} (hf : 2000 ≤ fuel) {Q : SPost} {k : List FI} {w : World} {ρ : Env} {v : Value} {xs : List ActC} {q m b8 : Nat} {l : Line} (e0 : ρ 0 = v) (e6 : ρ 6 = i64 q) (e8 : ρ 8 = ptr b8) (e10 : ρ 10 = i64 m)
    (hv : ActsC w v xs) (hq : q ≤ xs.length) (hq60 : q ≤ 60) (hmq : m < q) (c8 : cellsOf? w b8 = some (l.cells, 31, (0, 0))) (hr : lineRight l = true) (hno : ∀ n, m ≤ n → n < q → ¬ rel (actAt xs n) l ∧ ¬ ends (actAt xs n) l)
    (hN : ∀ (ρ' : Env) (w' : World), Keeps w w' (fun _ => False) → ρ' 0 = ρ 0 → ρ' 3 = ρ 3 → ρ' 5 = ρ 5 → ρ' 6 = ρ 6 → goN ⟨Try.prog, K, fuel, 9, none, 213, Q⟩ k ρ' [] w') :
    codeR ⟨Try.prog, K, fuel, 9, none, 213, Q⟩ t9d k ρ [] w := by
  simp -implicitDefEqProofs [t9d, e10]
  obtain ⟨_, hl0, hp0, hp1, _⟩ := lineRight_spec hr
  refine loop_go (fun i ρ' w' => ∃ n : Nat, i = q - n ∧ m ≤ n ∧ n ≤ q ∧ ρ' 0 = v ∧ ρ' 3 = ρ 3 ∧ ρ' 5 = ρ 5 ∧ ρ' 6 = i64 q ∧ ρ' 8 = ptr b8 ∧ ρ' 12 = i64 n ∧ Keeps w w' (fun _ => False)) ?_ (i := q - m) ?_ (by show q - m < fuel; omega)
  · rintro i ρ3 w3 ⟨n, rfl, hmn, hnq, j0, j3, j5, j6, j8, j12, hk3⟩
    have w2' : IntKind.i64.wrap ((n : Int) + 1) = (n : Int) + 1 := by rw [IntKind.wrap_i64]; omega
    by_cases hnl : n < q
    · have hnl' : (n : Int) < q := by omega
      have hnx : n < xs.length := by omega
      obtain ⟨_, vb, vc, hve, hat⟩ := hv.keep (KeepX.new hk3)
      obtain ⟨bb, bo, bc, be, bfz, hvb, hbc, hbfz, hbsz, hbext⟩ := hat n hnx
      subst hvb
      have hze : actAt xs n = xs[n] := actAt_eq hnx
      obtain ⟨hnr, hne⟩ := hno n hmn hnl
      rw [hze] at hnr hne
      have c83 := hk3.cells c8 (fun h => h)
      have n8 : ¬ b8 = w3.heap.size := Nat.ne_of_lt (cells_lt c83)
      have hzok : xs[n].ok := hv.1 _ (List.getElem_mem hnx)
      generalize xs[n] = z at *
      obtain ⟨zs, ⟨zp1, zp2⟩, zn⟩ := hzok
      have wsub : z.p ≤ l.p → 0 ≤ z.p → IntKind.i64.wrap (l.p - z.p) = l.p - z.p := fun h1 h2 => by rw [IntKind.wrap_i64]; omega
      have kb : Keeps w3 (World.set (World.push w3 (.cells zeroA.cells 62)) w3.heap.size (.cells z.cells 62)) (fun _ => False) :=
        (Keeps.push w3 _ (fun _ => False)).trans (Keeps.set _ w3.heap.size _ (F := fun j => j = w3.heap.size) (fun _ => rfl)) (fun _ _ h => h) (fun j hj h => by omega)
      have hw : Keeps w (World.set (World.push w3 (.cells zeroA.cells 62)) w3.heap.size (.cells z.cells 62)) (fun _ => False) := hk3.trans kb (fun _ _ h => h) (fun _ _ h => h)
      have hin : (n : Int) < xs.length := by omega
      obtain ⟨W, hW⟩ : ∃ W, W = World.set (World.push w3 (.cells zeroA.cells 62)) w3.heap.size (.cells z.cells 62) := ⟨_, rfl⟩
      have cW : cellsOf? W w3.heap.size = some (z.cells, 62, (0, 0)) := by rw [hW]; simp
      have cW8 : cellsOf? W b8 = some (l.cells, 31, (0, 0)) := by rw [hW]; exact kb.cells c83 (fun h => h)
      rw [← hW] at hw
      have hall : z.cells.all (fun a => one1 a) 0 10 = true := by
        have h := actC_one z
        rw [Array.all_toList] at h
        exact h
      by_cases c1 : 4 < z.k
      · by_cases c2 : z.k < 8
        · have c9 : ¬ z.k = 9 := by omega
          by_cases c3 : z.s = l.s
          · by_cases c4 : 0 < z.n
            · by_cases c5 : z.p ≤ l.p
              · by_cases c6 : 0 ≤ z.p
                · have c7 : ¬ l.p - z.p < z.n := fun h => hnr ⟨c1, c2, c3, c4, c5, c6, h⟩
                  have ws := wsub c5 c6
                  simp -implicitDefEqProofs [j0, j6, j8, j12, hnl', hve, hbc, hbsz, hbext, hin, ← hW, cW, cW8, w2', hall, c1, c2, c3, c4, c5, c6, c7, c9, ws]
                  exact ⟨q - (n + 1), by omega, n + 1, rfl, by omega, by omega, j3, j5, by omega, hw⟩
                · skip
                  simp -implicitDefEqProofs [j0, j6, j8, j12, hnl', hve, hbc, hbsz, hbext, hin, ← hW, cW, cW8, w2', hall, c1, c2, c3, c4, c5, c6, c9]
                  exact ⟨q - (n + 1), by omega, n + 1, rfl, by omega, by omega, j3, j5, by omega, hw⟩
              · skip
                simp -implicitDefEqProofs [j0, j6, j8, j12, hnl', hve, hbc, hbsz, hbext, hin, ← hW, cW, cW8, w2', hall, c1, c2, c3, c4, c5, c9]
                exact ⟨q - (n + 1), by omega, n + 1, rfl, by omega, by omega, j3, j5, by omega, hw⟩
            · skip
              simp -implicitDefEqProofs [j0, j6, j8, j12, hnl', hve, hbc, hbsz, hbext, hin, ← hW, cW, cW8, w2', hall, c1, c2, c3, c4, c9]
              exact ⟨q - (n + 1), by omega, n + 1, rfl, by omega, by omega, j3, j5, by omega, hw⟩
          · skip
            simp -implicitDefEqProofs [j0, j6, j8, j12, hnl', hve, hbc, hbsz, hbext, hin, ← hW, cW, cW8, w2', hall, c1, c2, c3, c9]
            exact ⟨q - (n + 1), by omega, n + 1, rfl, by omega, by omega, j3, j5, by omega, hw⟩
        · by_cases c9 : z.k = 9
          · have c3 : ¬ z.s = l.s := fun h => hne ⟨c9, h⟩
            simp -implicitDefEqProofs [j0, j6, j8, j12, hnl', hve, hbc, hbsz, hbext, hin, ← hW, cW, cW8, w2', hall, c9, c3]
            exact ⟨q - (n + 1), by omega, n + 1, rfl, by omega, by omega, j3, j5, by omega, hw⟩
          · skip
            simp -implicitDefEqProofs [j0, j6, j8, j12, hnl', hve, hbc, hbsz, hbext, hin, ← hW, cW, cW8, w2', hall, c1, c2, c9]
            exact ⟨q - (n + 1), by omega, n + 1, rfl, by omega, by omega, j3, j5, by omega, hw⟩
      · have c9 : ¬ z.k = 9 := by omega
        simp -implicitDefEqProofs [j0, j6, j8, j12, hnl', hve, hbc, hbsz, hbext, hin, ← hW, cW, cW8, w2', hall, c1, c9]
        exact ⟨q - (n + 1), by omega, n + 1, rfl, by omega, by omega, j3, j5, by omega, hw⟩
    · have hne : n = q := by omega
      subst hne
      simp -implicitDefEqProofs [j6, j12]
      exact hN _ _ hk3 (by simp [j0, e0]) (by simp [j3]) (by simp [j5]) (by simp [j6, e6])
  · exact ⟨m, rfl, Nat.le_refl _, by omega, by simp [e0], by simp, by simp, by simp [e6], by simp [e8], by simp, Keeps.refl _ _⟩

theorem tail9 {K : Kont} {fuel : Nat} (hH : Has K) (hf : 2000 ≤ fuel) {Q : SPost} {k : List FI} {w : World} {ρ : Env} {v pv : Value} {xs : List ActC} {q b7 b8 : Nat} {y : ActC} {l : Line} {ok : Bool} (e0 : ρ 0 = v) (e5 : ρ 5 = pv) (e6 : ρ 6 = i64 q) (e7 : ρ 7 = ptr b7) (e8 : ρ 8 = ptr b8) (e9 : ρ 9 = .bool ok)
    (hv : ActsC w v xs) (hq : q ≤ xs.length) (hq60 : q ≤ 60) (hpv : RowE (EQ xs) w pv (idx xs q)) (c7 : cellsOf? w b7 = some (y.cells, 62, (0, 0))) (c8 : cellsOf? w b8 = some (l.cells, 31, (0, 0)))
    (hok : ok = true → lineRight l = true ∧ lineHolds l y.s y.p = true ∧ ∃ m : Nat, m < q ∧ lastAt xs y.u l (idx xs q) = (m : Int) ∧ ∀ n, m ≤ n → n < q → ¬ rel (actAt xs n) l ∧ ¬ ends (actAt xs n) l)
    (hE : ∀ ρ' : Env, ρ' 0 = ρ 0 → ρ' 3 = ρ 3 → ρ' 5 = ρ 5 → ρ' 6 = ρ 6 → goE ⟨Try.prog, K, fuel, 9, none, 213, Q⟩ 1 k ρ' [] w) (hN : ∀ (ρ' : Env) (w' : World), Keeps w w' (fun _ => False) → ρ' 0 = ρ 0 → ρ' 3 = ρ 3 → ρ' 5 = ρ 5 → ρ' 6 = ρ 6 → goN ⟨Try.prog, K, fuel, 9, none, 213, Q⟩ k ρ' [] w') :
    codeR ⟨Try.prog, K, fuel, 9, none, 213, Q⟩ t9 k ρ [] w := by
  cases ok with
  | false =>
    simp -implicitDefEqProofs [t9, e9]
    exact hE _ (by simp) (by simp) (by simp) (by simp)
  | true =>
    obtain ⟨hr, hh, m, hmq, hlast, hno⟩ := hok rfl
    have hil := idx_len xs q
    have hlenS := fun w' => hpv.lenS (w' := w')
    simp -implicitDefEqProofs [t9, e9]
    refine loop_go (fun i ρ' w' => ∃ t : Nat, i = (idx xs q).length - t ∧ t ≤ (idx xs q).length ∧ w' = w ∧ ρ' 0 = v ∧ ρ' 3 = ρ 3 ∧ ρ' 5 = pv ∧ ρ' 6 = i64 q ∧ ρ' 7 = ptr b7 ∧ ρ' 8 = ptr b8 ∧ ρ' 10 = i64 (lastAt xs y.u l ((idx xs q).take t)) ∧ ρ' 11 = i64 t) ?_ (i := (idx xs q).length) ?_ (by show (idx xs q).length < fuel; omega)
    · rintro i ρ2 w2 ⟨t, rfl, ht, rfl, f0, f3, f5, f6, f7, f8, f10, f11⟩
      have w1' : IntKind.i64.wrap ((t : Int) + 1) = (t : Int) + 1 := by rw [IntKind.wrap_i64]; omega
      by_cases htl : t < (idx xs q).length
      · have htl' : (t : Int) < (idx xs q).length := by omega
        obtain ⟨pb, po, pcap, pc, hpve, hpc, hpsz, hpext, hpat⟩ := hpv.at htl
        have p0 := hpat 0 (show 0 < 7 by decide)
        have p1 := hpat 1 (show 1 < 7 by decide)
        simp [EQ] at p0 p1
        simp only [EQ] at hpc hpsz hpext
        have p2 : pc.extract (po + t * 7 + 2) (po + t * 7 + 2 + 5) = (actAt xs (idx xs q)[t]).c.cells := by
          have := congrArg (fun a => a.extract 2 7) hpext
          simp only [Array.extract_extract] at this
          rw [show po + t * 7 + 2 + 5 = min (po + t * 7 + 7) (po + t * 7 + 7) by omega, this]
          simp [Line.cells]
        have htake : (idx xs q).take (t + 1) = (idx xs q).take t ++ [(idx xs q)[t]] := by rw [List.take_succ_eq_append_getElem htl]
        have hnx : lastAt xs y.u l ((idx xs q).take (t + 1)) = if hitP xs y.u l (idx xs q)[t] then (((idx xs q)[t] : Nat) : Int) else lastAt xs y.u l ((idx xs q).take t) := by rw [htake, lastAt_snoc]
        have hsz5 : po + t * 7 + 2 + 5 ≤ pc.size := by omega
        by_cases h1 : (actAt xs (idx xs q)[t]).u = y.u
        · by_cases h2 : (actAt xs (idx xs q)[t]).c = l
          · rw [if_pos ⟨h1, h2⟩] at hnx
            simp -implicitDefEqProofs [f0, f3, f5, f6, f7, f8, f10, f11, hpve, hpc, p0, p1, p2, hsz5, htl', htl, c7, c8, h1, h2, line_eq, w1']
            exact ⟨(idx xs q).length - (t + 1), by omega, t + 1, rfl, htl, by rw [hnx], by omega⟩
          · rw [if_neg (fun h => h2 h.2)] at hnx
            simp -implicitDefEqProofs [f0, f3, f5, f6, f7, f8, f10, f11, hpve, hpc, p0, p1, p2, hsz5, htl', htl, c7, c8, h1, h2, line_eq, w1']
            exact ⟨(idx xs q).length - (t + 1), by omega, t + 1, rfl, htl, by rw [hnx], by omega⟩
        · rw [if_neg (fun h => h1 h.1)] at hnx
          simp -implicitDefEqProofs [f0, f3, f5, f6, f7, f8, f10, f11, hpve, hpc, p0, htl', htl, c7, h1, w1']
          exact ⟨(idx xs q).length - (t + 1), by omega, t + 1, rfl, htl, by rw [hnx], by omega⟩
      · have hte : t = (idx xs q).length := by omega
        rw [hte, List.take_length, hlast] at f10
        rw [hte] at f11
        have hm0 : ¬ (m : Int) < 0 := by omega
        have hhold : K.enter 20 #[.agg l.cells, i64 y.s, i64 y.p] w2 = .ret (.bool true, w2) := by
          have := hH.holds l y.s y.p w2 hr
          rw [hh] at this
          exact this
        simp -implicitDefEqProofs [t9c, f5, f7, f8, f10, f11, hlenS, hm0, c7, c8, hhold]
        exact tail9d hf (by simp [f0]) (by simp [f6]) (by simp [f8]) (by simp [f10]) hv hq hq60 hmq c8 hr hno (fun ρ' w' hk g0 g3 g5 g6 => hN ρ' w' hk (by rw [g0]; simp [f0, e0]) (by rw [g3]; simp [f3]) (by rw [g5]; simp [f5, e5]) (by rw [g6]; simp [f6, e6]))
    · exact ⟨0, rfl, Nat.zero_le _, rfl, by simp [e0], by simp, by simp [e5], by simp [e6], by simp [e7], by simp [e8], by simp [lastAt], by simp⟩

theorem CpuAt.keepX {w w' : World} {c : Nat} {a : Ad} {s : CS} (h : CpuAt w c a s) (mv : MvC w w' s a) : KeepX w w' := by
  refine ⟨mv.1.1, fun b cs t fz hc ht => mv.1.cells hc fun hm => ?_⟩
  have key : ∀ {c' t'}, cellsOf? w b = some (c', t', (0, 0)) → fz = (0, 0) ∧ t' = t := fun hc' => by
    rw [hc] at hc'; simp only [Option.some.injEq, Prod.mk.injEq] at hc'; exact ⟨hc'.2.2, hc'.2.1.symm⟩
  rcases hm with ⟨i, hi, hf⟩ | ⟨_, h0⟩ | ⟨c', t', hc', ht'⟩
  · obtain ⟨_, _, g, g2⟩ := (h.buf i hi).tag hf
    obtain ⟨k1, k2⟩ := key g
    subst k2
    rcases ht with ht | ht
    · exact ht k1
    · unfold okTag at ht; rcases g2 with rfl | rfl <;> simp at ht
  · rw [hc] at h0; cases h0
  · obtain ⟨k1, k2⟩ := key hc'
    subst k2
    rcases ht with ht | ht
    · exact ht k1
    · unfold okTag at ht; rcases ht' with rfl | rfl <;> simp at ht
theorem KeepX.row {w w' : World} {α : Type} {E : En α} {v : Value} {xs : List α} (h : KeepX w w') (hr : RowE E w v xs) (ht : okTag E.te) : RowE E w' v xs := by
  rcases hr with hr | ⟨b, o, cap, c, rfl, hc, h1, h2⟩
  · exact .inl hr
  · exact .inr ⟨b, o, cap, c, rfl, h.2 _ _ _ _ hc (.inr ht), h1, h2⟩

theorem okQ (xs : List ActC) : okTag (EQ xs).te := show okTag 65 by unfold okTag; decide
theorem ActsC.keepF {w w' : World} {v : Value} {xs : List ActC} {F : Nat → Prop} (h : ActsC w v xs) (hk : Keeps w w' F) (hF : ∀ b cs e fz, cellsOf? w b = some (cs, e, fz) → fz ≠ (0, 0) → ¬ F b) : ActsC w' v xs := by
  obtain ⟨ho, vb, vc, hv, h⟩ := h
  refine ⟨ho, vb, vc, hv, fun i hi => ?_⟩
  obtain ⟨b, o, c, e, fz, h1, h2, h3, h4⟩ := h i hi
  exact ⟨b, o, c, e, fz, h1, hk.cells h2 (hF b c e fz h2 h3), h3, h4⟩
theorem putE_zero {s : CS} {u : Int} {c : Line} : putE s u c = 0 ↔ isN s u ∧ lineRight c = true := by
  unfold putE
  by_cases h : isN s u
  · cases hr : lineRight c <;> simp [h]
  · simp [h]
/-- What is looked up was put, and is fresh. -/
theorem look_fresh {xs : List ActC} {q B : Nat} {s : CS} (hs : s.ok B) (hN : s.N = 3) (h : FreshAll xs q s) {u sp p : Int} (hu : isN s u) {l : Line} (hl : lookL ((catchA s u.toNat sp).L u.toNat) sp p = some l) :
    lineRight l = true ∧ lineHolds l sp p = true ∧ ∃ m : Nat, m < q ∧ lastAt xs u l (idx xs q) = (m : Int) ∧ ∀ n, m ≤ n → n < q → ¬ rel (actAt xs n) l ∧ ¬ ends (actAt xs n) l := by
  have hlt := hu.lt
  have hm := List.mem_of_find?_eq_some hl
  have hh : lineHolds l sp p = true := by have := List.find?_some hl; exact this
  have hms : l ∈ s.L u.toNat := by
    rw [catchA_L, if_pos rfl] at hm
    exact (catchL_sub _ _ _ _).subset hm
  have hsp : l.s = sp := by
    have h2 := hh
    simp [lineHolds] at h2
    omega
  obtain ⟨k, hk⟩ := h u.toNat (by omega) l hms
  obtain ⟨hk2, _⟩ := hk.catch hs hlt (sp := sp) hm
  rw [← hsp] at hk2
  have hno := hk2.none
  have hhit : hitP xs u l k := by have := hk.hit; rw [isN_n hu] at this; exact this
  obtain ⟨m, h1, h2, h3⟩ := lastAt_find q hk.lt hk.put hhit
  exact ⟨hs.right hlt l hms, hh, m, h2, h3, fun n hn hn2 => ⟨hno n (by omega) hn2, hk2.en n (by omega) hn2⟩⟩

/-- What holds between calls. -/
structure Mid (w : World) (c : Nat) (v pv : Value) (xs : List ActC) (q : Nat) : Prop where
  c : ∃ a, CpuAt w c a (runC (newA 3 5) (xs.take q))
  v : ActsC w v xs
  p : RowE (EQ xs) w pv (idx xs q)
theorem Mid.next {w w' : World} {c : Nat} {v pv : Value} {xs : List ActC} {q : Nat} (h : Mid w c v pv xs q) (hq : q < xs.length) {a' : Ad} (hc : CpuAt w' c a' (stepC (runC (newA 3 5) (xs.take q)) xs[q])) (hk : KeepX w w') (hp : isPut (actAt xs q) = false) : Mid w' c v pv xs (q + 1) :=
  ⟨⟨a', by rw [List.take_succ_eq_append_getElem hq, runC_snoc]; exact hc⟩, h.v.keep hk, by rw [idx_snoc, if_neg (by rw [hp]; exact Bool.false_ne_true)]; exact hk.row h.p (okQ xs)⟩

set_option maxRecDepth 20000 in
theorem run9 {K : Kont} {fuel : Nat} (hT : TopC K) (hf : 2000 ≤ fuel) {w : World} {v : Value} {xs : List ActC} (hv : ActsC w v xs) :
    wpGFn Try.prog K fuel 9 g9 #[v] w fun u _ => u = .bool true := by
  rw [gfn_start]
  have hzl : (#[i64 0, i64 0, i64 0, i64 0, .bool false] : Array Value) = zeroL.cells := rfl
  have hza : (#[i64 0, i64 0, i64 0, i64 0, i64 0, i64 0, i64 0, i64 0, i64 0, .bool false] : Array Value) = zeroA.cells := rfl
  rw [g9_eq, hzl, hza]
  simp -implicitDefEqProofs
  refine valA_of (hT.k.new (n := 3) (size := 5) (by decide) (by decide)) (fun u w1 hq => ?_)
  obtain ⟨c, a, hu, hc1, hk1, _⟩ := hq
  simp only at hu hc1 hk1
  subst hu
  simp -implicitDefEqProofs [nil57, hT.k.a.has.awake28]
  refine loop_go (fun i ρ w' => ∃ (q : Nat) (pv : Value), i = 60 - q ∧ q ≤ 60 ∧ q ≤ xs.length ∧ ρ 0 = v ∧ ρ 3 = ptr c ∧ ρ 5 = pv ∧ ρ 6 = i64 q ∧ Mid w' c v pv xs q) ?_ (i := 60) ?_ (by show 60 < fuel; omega)
  · rintro i ρ w' ⟨q, pv, rfl, hq, hql, e0, e3, e5, e6, hM⟩
    have w1' : IntKind.i64.wrap ((q : Int) + 1) = (q : Int) + 1 := by rw [IntKind.wrap_i64]; omega
    by_cases h1 : q < xs.length
    · have h1' : (q : Int) < xs.length := by omega
      by_cases h2 : q < 60
      · have h2' : (q : Int) < 60 := by omega
        have kb : Keeps w' (World.set (World.push w' (.cells zeroA.cells 62)) w'.heap.size (.cells xs[q].cells 62)) (fun _ => False) :=
          (Keeps.push w' _ (fun _ => False)).trans (Keeps.set _ w'.heap.size _ (F := fun j => j = w'.heap.size) (fun _ => rfl)) (fun _ _ h => h) (fun j hj h => by omega)
        obtain ⟨W, hW⟩ : ∃ W, W = World.set (World.push w' (.cells zeroA.cells 62)) w'.heap.size (.cells xs[q].cells 62) := ⟨_, rfl⟩
        have cW : cellsOf? W w'.heap.size = some (xs[q].cells, 62, (0, 0)) := by rw [hW]; simp
        rw [← hW] at kb
        have kx := KeepX.new kb
        obtain ⟨⟨a', hc0⟩, hv', hp'⟩ := id hM
        obtain ⟨hcW, _⟩ := hc0.keep kb (fun _ _ h => h)
        have hMW : Mid W c v pv xs q := ⟨⟨a', hcW⟩, hv'.keep kx, kx.row hp' (okQ xs)⟩
        have hs : (runC (newA 3 5) (xs.take q)).ok 60 := (runC_ok (xs.take q) (newA_ok (by decide) (by decide)) (fun y hy => hv.1 y (List.mem_of_mem_take hy))).mono (by simp; omega)
        have hN : (runC (newA 3 5) (xs.take q)).N = 3 := runC_N _ _
        have hfr := fresh_run (xs := xs) hv.1 q hql
        obtain ⟨_, vb, vc, hve, hat⟩ := id hv'
        obtain ⟨bb, bo, bc, be, bfz, hvb, hbc, hbfz, hbsz, hbext⟩ := hat q h1
        subst hvb
        have hall : xs[q].cells.all (fun a => one1 a) 0 10 = true := by
          have h := actC_one xs[q]
          rw [Array.all_toList] at h
          exact h
        have hae : actAt xs q = xs[q] := actAt_eq h1
        have hyok := hv.1 _ (List.getElem_mem h1)
        -- behind the call
        have next : ∀ {w7 : World} {a7 : Ad}, CpuAt w7 c a7 (stepC (runC (newA 3 5) (xs.take q)) xs[q]) → KeepX W w7 → isPut (actAt xs q) = false → Mid w7 c v pv xs (q + 1) := fun h7 k7 hp => hMW.next h1 h7 k7 hp
        obtain ⟨y, hy⟩ : ∃ y, y = xs[q] := ⟨_, rfl⟩
        rw [← hy] at cW hbext hall hae hyok next hW
        generalize hse : runC (newA 3 5) (xs.take q) = s at *
        have hnp : ¬ (y.k = 0 ∨ y.k = 1 ∨ y.k = 2) → isPut (actAt xs q) = false := fun h => by
          rw [hae]
          unfold isPut
          have : ¬ y.k = 0 ∧ ¬ y.k = 1 ∧ ¬ y.k = 2 := by omega
          simp [this]
        have fin0 : ∀ {w7 : World} {a7 : Ad}, CpuAt w7 c a7 (stepC s y) → KeepX W w7 → isPut (actAt xs q) = false → ∃ i', i' < 60 - q ∧ ∃ n, i' = 60 - n ∧ n ≤ 60 ∧ n ≤ xs.length ∧ ((q : Int) + 1 = (n : Int)) ∧ Mid w7 c v pv xs n := fun h7 k7 hp => ⟨60 - (q + 1), by omega, q + 1, rfl, by omega, h1, by omega, next h7 k7 hp⟩
        by_cases hk : y.k = 0 ∨ y.k = 1 ∨ y.k = 2
        · have hst : stepC s y = if isN s y.u then putA s y.u.toNat y.c else s := by unfold stepC; rw [if_pos hk]
          have putcase : ∀ {w7 : World} {u : Value}, (u = i64 (putE s y.u y.c) ∧ CpuAt w7 c a' (if isN s y.u then putA s y.u.toNat y.c else s) ∧ MvC W w7 s a') → KeepX W w7 ∧ CpuAt w7 c a' (stepC s y) ∧ cellsOf? w7 w'.heap.size = some (y.cells, 62, (0, 0)) := fun ⟨_, h7, mv⟩ => by
            have k7 := hcW.keepX mv
            exact ⟨k7, by rw [hst]; exact h7, k7.2 _ _ _ _ cW (.inr (by unfold okTag; decide))⟩
          have app : ∀ {w7 : World}, KeepX W w7 → CpuAt w7 c a' (stepC s y) → putE s y.u y.c = 0 → ∀ {Q : Value × World → Prop}, (∀ v9 w9, Mid w9 c v v9 xs (q + 1) → Q (v9, w9)) → (appendS 65 7 56 pv (.slice (some ⟨w7.heap.size, 0, none⟩) 1 1) (World.push w7 (.cells #[i64 y.u, i64 q, i64 y.c.s, i64 y.c.p, i64 y.c.o, i64 y.c.f, .bool y.c.w] 65))).all Q := by
            intro w7 k7 h7 hz Q hQ
            have hp7 := k7.row hMW.p (okQ xs)
            have kp : Keeps w7 (World.push w7 (.cells #[i64 y.u, i64 q, i64 y.c.s, i64 y.c.p, i64 y.c.o, i64 y.c.f, .bool y.c.w] 65)) (fun _ => False) := Keeps.push _ _ _
            have hil := idx_len xs q
            refine appE (E := EQ xs) (by_ := 56) (hp7.keep kp (fun _ _ h => h)) (src_q (xs := xs) (m := q) (t := 65) (by simp [hae])) (by simp; omega) (by decide) (fun v9 w9 hr9 hk9 _ _ => hQ v9 w9 ?_)
            have k79 : Keeps w7 w9 (fun b => blkOf pv = some b) := kp.trans hk9 (fun _ _ h => h.elim) (fun _ _ h => h)
            have hpt : isPut (actAt xs q) = true := by
              obtain ⟨g1, g2⟩ := putE_zero.1 hz
              rw [hae]
              have n1 : 0 ≤ y.u := g1.1
              have n2 : y.u < 3 := by have := g1.2; omega
              unfold isPut
              simp only [g2, n1, n2, decide_true, Bool.and_self, Bool.and_true]
              rcases hk with c | c | c <;> simp [c]
            refine ⟨⟨a', ?_⟩, (hv'.keep (kx.trans k7)).keepF k79 fun b cs e fz hb hfz hh => ?_, by rw [idx_snoc, if_pos hpt]; exact hr9⟩
            · rw [List.take_succ_eq_append_getElem h1, runC_snoc, hse, ← hy]
              refine (h7.keep k79 fun b hb hh => ?_).1
              obtain ⟨_, hc65⟩ := hp7.tag hh
              rcases hb with ⟨i, hi, hf⟩ | ⟨_, h0⟩ | ⟨_, t', hc', ht'⟩
              · obtain ⟨_, _, g1, g2⟩ := (h7.buf i hi).tag hf
                rw [hc65] at g1; simp [EQ] at g1; rw [← g1.2] at g2; simp at g2
              · rw [hc65] at h0; cases h0
              · rw [hc65] at hc'; simp [EQ] at hc'; rw [← hc'.2] at ht'; simp [TC] at ht'
            · obtain ⟨_, hc65⟩ := hp7.tag hh
              rw [hc65] at hb
              simp only [Option.some.injEq, Prod.mk.injEq] at hb
              exact hfz hb.2.2.symm
          rcases hk with hk | hk | hk
          all_goals
            simp -implicitDefEqProofs [e0, e3, e5, e6, h1', h2', hM.v.len, hve, hbc, hbsz, hbext, hall, ← hW, cW, hk]
            refine valA_of (hT.k.put hcW hs (by omega) y.u y.c) (fun u w7 hq7 => ?_)
            simp only at hq7
            obtain ⟨k7, h7, c7⟩ := putcase hq7
            have hu := hq7.1
            subst hu
            by_cases hz : putE s y.u y.c = 0
            · simp -implicitDefEqProofs [hz, e5, e6, c7, fillS, Instr.fill, Line.cells, row_q]
              refine app k7 h7 hz (fun v9 w9 hM9 => ?_)
              simp -implicitDefEqProofs [e0, e3, e6, w1']
              exact ⟨60 - (q + 1), by omega, q + 1, rfl, by omega, h1, by rw [← hve], by omega, hve ▸ hM9⟩
            · have hnp2 : isPut (actAt xs q) = false := by
                rw [hae]
                cases hpp : isPut y with
                | false => rfl
                | true =>
                  exfalso
                  apply hz
                  rw [putE_zero]
                  unfold isPut at hpp
                  simp only [Bool.and_eq_true, decide_eq_true_eq] at hpp
                  exact ⟨⟨hpp.1.2.1, by have := hpp.1.2.2; omega⟩, hpp.2⟩
              simp -implicitDefEqProofs [hz, e0, e3, e5, e6, w1']
              obtain ⟨i', g1, n, g2, g3, g4, g5, g6⟩ := fin0 h7 k7 hnp2
              exact ⟨i', g1, n, g2, g3, g4, hve, g5, hve ▸ g6⟩
        have hnp' := hnp hk
        obtain ⟨n0, n1, n2⟩ : ¬ y.k = 0 ∧ ¬ y.k = 1 ∧ ¬ y.k = 2 := by omega
        by_cases hk3 : y.k = 3 ∨ y.k = 4
        · have hst : stepC s y = if isN s y.u then catchA s y.u.toNat y.s else s := by unfold stepC; rw [if_neg hk, if_pos hk3]
          obtain ⟨res, hres⟩ : ∃ res, res = if isN s y.u then lookL ((catchA s y.u.toNat y.s).L y.u.toNat) y.s y.p else none := ⟨_, rfl⟩
          have look : ∀ {w7 : World} {u : Value}, ((isN s y.u → u = lookV (lookL ((catchA s y.u.toNat y.s).L y.u.toNat) y.s y.p) ∧ CpuAt w7 c a' (catchA s y.u.toNat y.s)) ∧ (¬ isN s y.u → u = lookV none ∧ CpuAt w7 c a' s) ∧ MvC W w7 s a') → u = lookV res ∧ CpuAt w7 c a' (stepC s y) ∧ KeepX W w7 := fun ⟨g1, g2, mv⟩ => by
            refine ⟨?_, ?_, hcW.keepX mv⟩
            · rw [hres]
              by_cases hn : isN s y.u
              · rw [if_pos hn]; exact (g1 hn).1
              · rw [if_neg hn]; exact (g2 hn).1
            · rw [hst]
              by_cases hn : isN s y.u
              · rw [if_pos hn]; exact (g1 hn).2
              · rw [if_neg hn]; exact (g2 hn).2
          have hok : res.isSome = true → lineRight (res.getD zeroL) = true ∧ lineHolds (res.getD zeroL) y.s y.p = true ∧ ∃ m : Nat, m < q ∧ lastAt xs y.u (res.getD zeroL) (idx xs q) = (m : Int) ∧ ∀ n, m ≤ n → n < q → ¬ rel (actAt xs n) (res.getD zeroL) ∧ ¬ ends (actAt xs n) (res.getD zeroL) := fun hsome => by
            by_cases hn : isN s y.u
            · rw [if_pos hn] at hres
              obtain ⟨l, hl⟩ := Option.isSome_iff_exists.1 hsome
              rw [hl] at hres ⊢
              exact look_fresh hs hN hfr hn hres.symm
            · rw [if_neg hn] at hres
              rw [hres] at hsome; cases hsome
          rcases hk3 with hk3 | hk3
          all_goals
            simp -implicitDefEqProofs [e0, e3, e5, e6, h1', h2', hM.v.len, hve, hbc, hbsz, hbext, hall, ← hW, cW, hk3]
            refine valA_of (hT.k.look hcW hs (by omega) y.u y.s y.p) (fun u w7 hq7 => ?_)
            simp only at hq7
            obtain ⟨hu, h7, k7⟩ := look hq7
            subst hu
            have c7 := k7.2 _ _ _ _ cW (.inr (by unfold okTag; decide))
            have kb7 : Keeps w7 (World.set (World.push w7 (.cells zeroL.cells 31)) w7.heap.size (.cells (res.getD zeroL).cells 31)) (fun _ => False) :=
              (Keeps.push w7 _ (fun _ => False)).trans (Keeps.set _ w7.heap.size _ (F := fun j => j = w7.heap.size) (fun _ => rfl)) (fun _ _ h => h) (fun j hj h => by omega)
            obtain ⟨W8, hW8⟩ : ∃ W8, W8 = World.set (World.push w7 (.cells zeroL.cells 31)) w7.heap.size (.cells (res.getD zeroL).cells 31) := ⟨_, rfl⟩
            have c88 : cellsOf? W8 w7.heap.size = some ((res.getD zeroL).cells, 31, (0, 0)) := by rw [hW8]; simp
            rw [← hW8] at kb7
            have k8 := k7.trans (KeepX.new kb7)
            have h8 := (h7.keep kb7 (fun _ _ h => h)).1
            simp -implicitDefEqProofs [lookV, Line.val]
            rw [← hW8]
            refine tail9 hT.k.a.has hf (v := v) (pv := pv) (xs := xs) (q := q) (b7 := w'.heap.size) (b8 := w7.heap.size) (y := y) (l := res.getD zeroL) (ok := res.isSome) (by simp [e0]) (by simp [e5]) (by simp [e6]) (by simp) (by simp) (by simp) (hMW.v.keep k8) hql hq (k8.row hMW.p (okQ xs)) (kb7.cells c7 (fun h => h)) c88 hok (fun ρ' g0 g3 g5 g6 => ?_) (fun ρ' w9 hk9 g0 g3 g5 g6 => ?_)
            · simp at g0 g3 g5 g6
              simp -implicitDefEqProofs [g6, e6, w1']
              obtain ⟨i', f1, n, f2, f3, f4, f5, f6⟩ := fin0 h8 k8 hnp'
              exact ⟨i', f1, n, f2, f3, f4, by rw [g0, e0, hve], by rw [g3, e3], f5, by rw [g5, e5]; exact hve ▸ f6⟩
            · simp at g0 g3 g5 g6
              have k9 := k8.trans (KeepX.new hk9)
              have h9 := (h8.keep hk9 (fun _ _ h => h)).1
              simp -implicitDefEqProofs [g6, e6, w1']
              obtain ⟨i', f1, n, f2, f3, f4, f5, f6⟩ := fin0 h9 k9 hnp'
              exact ⟨i', f1, n, f2, f3, f4, by rw [g0, e0, hve], by rw [g3, e3], f5, by rw [g5, e5]; exact hve ▸ f6⟩
        obtain ⟨n3, n4⟩ : ¬ y.k = 3 ∧ ¬ y.k = 4 := by omega
        by_cases hk5 : y.k = 5 ∨ y.k = 6 ∨ y.k = 7
        · have hst : stepC s y = flushA s ⟨y.s, y.p, y.n⟩ := by unfold stepC; rw [if_neg hk, if_neg hk3, if_pos hk5]
          rcases hk5 with hk5 | hk5 | hk5
          all_goals
            simp -implicitDefEqProofs [e0, e3, e5, e6, h1', h2', hM.v.len, hve, hbc, hbsz, hbext, hall, ← hW, cW, hk5]
            refine valA_of (hT.k.flush hcW hs (by omega) y.s y.p y.n) (fun u w7 hq7 => ?_)
            obtain ⟨a7, h7, _, mv⟩ := hq7
            simp only at h7 mv
            rw [← hst] at h7
            have k7 := hcW.keepX mv
            simp -implicitDefEqProofs [e0, e3, e5, e6, w1']
            obtain ⟨i', g1, n, g2, g3, g4, g5, g6⟩ := fin0 h7 k7 hnp'
            exact ⟨i', g1, n, g2, g3, g4, hve, g5, hve ▸ g6⟩
        obtain ⟨n5, n6, n7⟩ : ¬ y.k = 5 ∧ ¬ y.k = 6 ∧ ¬ y.k = 7 := by omega
        by_cases hk8 : y.k = 8
        · have hst : stepC s y = if isN s y.u then syncA s y.u.toNat else s := by unfold stepC; rw [if_neg hk, if_neg hk3, if_neg hk5, if_pos hk8]
          simp -implicitDefEqProofs [e0, e3, e5, e6, h1', h2', hM.v.len, hve, hbc, hbsz, hbext, hall, ← hW, cW, hk8]
          refine valA_of (hT.k.sync hcW hs (by omega) y.u) (fun u w7 hq7 => ?_)
          obtain ⟨_, h7, mv⟩ := hq7
          simp only at h7 mv
          rw [← hst] at h7
          have k7 := hcW.keepX mv
          simp -implicitDefEqProofs [e0, e3, e5, e6, w1']
          obtain ⟨i', g1, n, g2, g3, g4, g5, g6⟩ := fin0 h7 k7 hnp'
          exact ⟨i', g1, n, g2, g3, g4, hve, g5, hve ▸ g6⟩
        by_cases hk9 : y.k = 9
        · have hst : stepC s y = endA s s.N y.s := by unfold stepC; rw [if_neg hk, if_neg hk3, if_neg hk5, if_neg hk8, if_pos hk9]
          simp -implicitDefEqProofs [e0, e3, e5, e6, h1', h2', hM.v.len, hve, hbc, hbsz, hbext, hall, ← hW, cW, hk9]
          refine valA_of (hT.k.end_ hcW hs (by omega) y.s) (fun u w7 hq7 => ?_)
          obtain ⟨h7, mv⟩ := hq7
          simp only at h7 mv
          rw [← hst] at h7
          have k7 := hcW.keepX mv
          simp -implicitDefEqProofs [e0, e3, e5, e6, w1']
          obtain ⟨i', g1, n, g2, g3, g4, g5, g6⟩ := fin0 h7 k7 hnp'
          exact ⟨i', g1, n, g2, g3, g4, hve, g5, hve ▸ g6⟩
        · have hst : stepC s y = if isN s y.u then dropA s y.u.toNat y.n else s := by unfold stepC; rw [if_neg hk, if_neg hk3, if_neg hk5, if_neg hk8, if_neg hk9]
          simp -implicitDefEqProofs [e0, e3, e5, e6, h1', h2', hM.v.len, hve, hbc, hbsz, hbext, hall, ← hW, cW, n0, n1, n2, n3, n4, n5, n6, n7, hk8, hk9]
          refine valA_of (hT.k.drop hcW hs y.u y.n hyok.2.2) (fun u w7 hq7 => ?_)
          obtain ⟨_, h7, mv⟩ := hq7
          simp only at h7 mv
          rw [← hst] at h7
          have k7 := hcW.keepX mv
          simp -implicitDefEqProofs [e0, e3, e5, e6, w1']
          obtain ⟨i', g1, n, g2, g3, g4, g5, g6⟩ := fin0 h7 k7 hnp'
          exact ⟨i', g1, n, g2, g3, g4, hve, g5, hve ▸ g6⟩
      · have hq60 : q = 60 := by omega
        subst hq60
        have h5 : (60 : Int) < xs.length := by omega
        simp -implicitDefEqProofs [e0, e6, hM.v.len, h5]
    · have h1' : ¬ (q : Int) < xs.length := by omega
      simp -implicitDefEqProofs [e0, e6, hM.v.len, h1']
  · exact ⟨0, .slice none 0 0, rfl, by omega, Nat.zero_le _, by simp, by simp, by simp, by simp, ⟨⟨a, hc1⟩, hv.keep (KeepX.new hk1), RowE.nil _⟩⟩
end Go.Proofs.Ytplcocifndpplaa
