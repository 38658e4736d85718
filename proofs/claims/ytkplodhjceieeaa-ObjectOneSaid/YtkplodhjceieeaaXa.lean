/-
  The small words of the functions that the Object rows reach.
-/
import Derived.Test.YtkplodhjceieeaaRows
import Derived.Test.YtkplodhjceieeaaJj
namespace Go.Proofs.Ytkplodhjceieeaa
open Go Go.Ideal

def g14 : GFn :=
 ⟨5, [⟨0, none⟩], .seq (.ops [.grp none [⟨some 0, none, .move (.const (.pointer none)), []⟩]]) 
 (.seq (.ops [.grp none [⟨some 1, none, .makeMap, []⟩, ⟨some 2, none, .makeMap, []⟩, ⟨some 3, none, .build #[(0, 1), (1, 1), (2, 1)] #[.int .i64 0, .map none, .map none] [(1, .tmp 1), (2, .tmp 2)], []⟩, ⟨some 4, none, .box 81 (.tmp 3), []⟩, ⟨some 0, none, .move (.tmp 4), []⟩]]) .ret)⟩
theorem low14 : lowG Try.prog 14 = some g14 := by kernel_rfl

def g16 : GFn :=
 ⟨28, [⟨2, none⟩], .seq (.ops [.grp none [⟨some 2, none, .move (.const (.int .i64 0)), []⟩]]) 
 (.seq 
 (.seq (.ops [.grp none [⟨some 3, none, .move (.tmp 0), []⟩, ⟨some 4, none, .bin .eql 23 (.tmp 3) (.const (.pointer none)), []⟩]]) 
 (.cond (.tmp 4) 
 (.seq (.ops [.grp none [⟨some 2, none, .move (.const (.int .i64 0)), []⟩]]) .ret) .skip)) 
 (.seq (.ops [.grp none [⟨some 5, none, .move (.tmp 0), []⟩, ⟨some 6, none, .nonnil (.tmp 5), []⟩, ⟨some 7, none, .faddr 1 (.tmp 6), []⟩, ⟨some 8, none, .load none (.tmp 7), []⟩, ⟨some 9, none, .move (.tmp 0), []⟩, ⟨some 10, none, .nonnil (.tmp 9), []⟩, ⟨some 11, none, .faddr 0 (.tmp 10), []⟩, ⟨some 12, none, .load none (.tmp 11), []⟩, ⟨some 13, none, .makeMap, [⟨some 12, none, .load none (.tmp 11)⟩, ⟨some 8, none, .load none (.tmp 7)⟩]⟩, ⟨some 14, none, .build #[(0, 1), (1, 1)] #[.int .i64 0, .map none] [(0, .const (.int .i64 1)), (1, .tmp 13)], []⟩, ⟨some 15, none, .box 85 (.tmp 14), [⟨some 12, none, .load none (.tmp 11)⟩, ⟨some 8, none, .load none (.tmp 7)⟩]⟩, ⟨none, none, .update .i64 (.tmp 8) (.tmp 12) (.tmp 15), []⟩]]) 
 (.seq (.ops [.grp none [⟨some 16, none, .move (.tmp 0), []⟩, ⟨some 17, none, .nonnil (.tmp 16), []⟩, ⟨some 18, none, .faddr 0 (.tmp 17), []⟩, ⟨some 19, none, .load none (.tmp 18), []⟩, ⟨some 20, none, .bin .add 3 (.tmp 19) (.const (.int .i64 1)), []⟩, ⟨some 21, none, .nonnil (.tmp 16), []⟩, ⟨some 22, none, .faddr 0 (.tmp 21), []⟩, ⟨none, none, .store 1 (.tmp 22) (.tmp 20), []⟩]]) 
 (.seq (.ops [.grp none [⟨some 23, none, .move (.tmp 0), []⟩, ⟨some 24, none, .nonnil (.tmp 23), []⟩, ⟨some 25, none, .faddr 0 (.tmp 24), []⟩, ⟨some 26, none, .load none (.tmp 25), []⟩, ⟨some 27, none, .bin .sub 3 (.tmp 26) (.const (.int .i64 1)), []⟩, ⟨some 2, none, .move (.tmp 27), []⟩]]) .ret))))⟩
theorem low16 : lowG Try.prog 16 = some g16 := by kernel_rfl

def g17 : GFn :=
 ⟨75, [⟨8, none⟩], .seq (.ops [.grp none [⟨some 8, none, .move (.const (.int .i64 0)), []⟩]]) 
 (.seq (.ops [.grp none [⟨some 16, none, .move (.tmp 0), []⟩, ⟨some 17, none, .move (.tmp 1), []⟩, ⟨some 18, none, .call 48 #[.tmp 16, .tmp 17], []⟩, ⟨some 15, none, .move (.tmp 18), []⟩, ⟨some 19, none, .extract (.tmp 15) 0, []⟩, ⟨some 20, none, .extract (.tmp 15) 1, []⟩, ⟨some 9, none, .move (.tmp 19), []⟩, ⟨some 10, none, .move (.tmp 20), []⟩]]) 
 (.seq 
 (.seq (.ops [.grp none [⟨some 21, none, .move (.tmp 10), []⟩, ⟨some 22, none, .bin .neq 27 (.tmp 21) (.const (.int .i64 0)), []⟩]]) 
 (.cond (.tmp 22) 
 (.seq (.ops [.grp none [⟨some 23, none, .move (.tmp 10), []⟩, ⟨some 8, none, .move (.tmp 23), []⟩]]) .ret) .skip)) 
 (.seq 
 (.seq (.ops [.grp none [⟨some 24, none, .move (.tmp 2), []⟩, ⟨some 25, none, .bin .lss 3 (.tmp 24) (.const (.int .i64 0)), []⟩, ⟨some 26, none, .move (.tmp 25), []⟩],
  .grp (some (some 26, false)) [⟨some 27, none, .move (.tmp 2), []⟩, ⟨some 28, none, .bin .geq 3 (.tmp 27) (.const (.int .i64 4096)), []⟩],
  .grp none [⟨some 29, none, .pick (.tmp 26) (.const (.bool true)) (.tmp 28), []⟩, ⟨some 30, none, .move (.tmp 29), []⟩],
  .grp (some (some 30, false)) [⟨some 31, none, .move (.tmp 3), []⟩, ⟨some 32, none, .call 49 #[.tmp 31], []⟩, ⟨some 33, none, .un .not (.tmp 32), []⟩],
  .grp none [⟨some 34, none, .pick (.tmp 30) (.const (.bool true)) (.tmp 33), []⟩]]) 
 (.cond (.tmp 34) 
 (.seq (.ops [.grp none [⟨some 8, none, .move (.const (.int .i64 3)), []⟩]]) .ret) .skip)) 
 (.seq (.ops [.grp none [⟨some 36, none, .move (.tmp 9), []⟩, ⟨some 37, none, .nonnil (.tmp 36), []⟩, ⟨some 38, none, .faddr 1 (.tmp 37), []⟩, ⟨some 39, none, .load none (.tmp 38), []⟩, ⟨some 40, none, .move (.tmp 2), []⟩, ⟨some 41, none, .lookup .i64 (.int .i64 0) (.tmp 39) (.tmp 40) true, []⟩, ⟨some 35, none, .move (.tmp 41), []⟩, ⟨some 42, none, .extract (.tmp 35) 0, []⟩, ⟨some 43, none, .extract (.tmp 35) 1, []⟩, ⟨some 11, none, .move (.tmp 42), []⟩, ⟨some 12, none, .move (.tmp 43), []⟩]]) 
 (.seq (.ops [.grp none [⟨some 45, none, .move (.tmp 0), []⟩, ⟨some 46, none, .nonnil (.tmp 45), []⟩, ⟨some 47, none, .faddr 2 (.tmp 46), []⟩, ⟨some 48, none, .load none (.tmp 47), []⟩, ⟨some 49, none, .move (.tmp 3), []⟩, ⟨some 50, none, .lookup .i64 (.agg #[.int .i64 0, .int .i64 0]) (.tmp 48) (.tmp 49) true, []⟩, ⟨some 44, none, .move (.tmp 50), []⟩, ⟨some 51, none, .extract (.tmp 44) 0, []⟩, ⟨some 52, none, .extract (.tmp 44) 1, []⟩, ⟨some 13, none, .zero 91 #[.int .i64 0, .int .i64 0], []⟩, ⟨none, none, .store 2 (.tmp 13) (.tmp 51), []⟩, ⟨some 14, none, .move (.tmp 52), []⟩]]) 
 (.seq 
 (.seq (.ops [.grp none [⟨some 53, none, .move (.tmp 12), []⟩, ⟨some 54, none, .move (.tmp 53), []⟩],
  .grp (some (some 54, false)) [⟨some 55, none, .move (.tmp 14), []⟩],
  .grp none [⟨some 56, none, .pick (.tmp 54) (.const (.bool true)) (.tmp 55), []⟩]]) 
 (.cond (.tmp 56) 
 (.seq (.ops [.grp none [⟨some 8, none, .move (.const (.int .i64 7)), []⟩]]) .ret) .skip)) 
 (.seq (.ops [.grp none [⟨some 57, none, .move (.tmp 9), []⟩, ⟨some 58, none, .nonnil (.tmp 57), []⟩, ⟨some 59, none, .faddr 1 (.tmp 58), []⟩, ⟨some 60, none, .load none (.tmp 59), []⟩, ⟨some 61, none, .move (.tmp 2), []⟩, ⟨some 62, none, .move (.tmp 0), []⟩, ⟨some 63, none, .nonnil (.tmp 62), []⟩, ⟨some 64, none, .faddr 2 (.tmp 63), []⟩, ⟨some 65, none, .load none (.tmp 64), []⟩, ⟨some 66, none, .move (.tmp 3), []⟩, ⟨some 67, none, .move (.tmp 3), []⟩, ⟨some 68, none, .move (.tmp 1), []⟩, ⟨some 69, none, .move (.tmp 2), []⟩, ⟨some 70, none, .build #[(0, 1), (1, 1)] #[.int .i64 0, .int .i64 0] [(0, .tmp 68), (1, .tmp 69)], []⟩, ⟨some 71, none, .raw (Op.mapEntry 83 (.tmp 60) (.tmp 61)) 0, []⟩, ⟨some 72, none, .extract (.tmp 71) 1, []⟩, ⟨none, none, .raw (Op.entryStore 83 (.tmp 60) (.tmp 72) (.tmp 67)) 0, []⟩, ⟨some 73, none, .raw (Op.mapEntry 79 (.tmp 65) (.tmp 66)) 0, []⟩, ⟨some 74, none, .extract (.tmp 73) 1, []⟩, ⟨none, none, .raw (Op.entryStore 79 (.tmp 65) (.tmp 74) (.tmp 70)) 0, []⟩]]) 
 (.seq (.ops [.grp none [⟨some 8, none, .move (.const (.int .i64 0)), []⟩]]) .ret))))))))⟩
theorem low17 : lowG Try.prog 17 = some g17 := by kernel_rfl

def g18 : GFn :=
 ⟨23, [⟨4, none⟩], .seq (.ops [.grp none [⟨some 4, none, .move (.const (.int .i64 0)), []⟩]]) 
 (.seq (.ops [.grp none [⟨some 8, none, .move (.tmp 0), []⟩, ⟨some 9, none, .move (.tmp 1), []⟩, ⟨some 10, none, .call 48 #[.tmp 8, .tmp 9], []⟩, ⟨some 7, none, .move (.tmp 10), []⟩, ⟨some 11, none, .extract (.tmp 7) 0, []⟩, ⟨some 12, none, .extract (.tmp 7) 1, []⟩, ⟨some 5, none, .move (.tmp 11), []⟩, ⟨some 6, none, .move (.tmp 12), []⟩]]) 
 (.seq 
 (.seq (.ops [.grp none [⟨some 13, none, .move (.tmp 6), []⟩, ⟨some 14, none, .bin .eql 27 (.tmp 13) (.const (.int .i64 0)), []⟩]]) 
 (.cond (.tmp 14) (.ops [.grp none [⟨some 15, none, .move (.tmp 5), []⟩, ⟨some 16, none, .nonnil (.tmp 15), []⟩, ⟨some 17, none, .faddr 0 (.tmp 16), []⟩, ⟨some 18, none, .load none (.tmp 17), []⟩, ⟨some 19, none, .bin .add 3 (.tmp 18) (.const (.int .i64 1)), []⟩, ⟨some 20, none, .nonnil (.tmp 15), []⟩, ⟨some 21, none, .faddr 0 (.tmp 20), []⟩, ⟨none, none, .store 1 (.tmp 21) (.tmp 19), []⟩]]) .skip)) 
 (.seq (.ops [.grp none [⟨some 22, none, .move (.tmp 6), []⟩, ⟨some 4, none, .move (.tmp 22), []⟩]]) .ret)))⟩
theorem low18 : lowG Try.prog 18 = some g18 := by kernel_rfl

def g19 : GFn :=
 ⟨53, [⟨4, none⟩, ⟨5, none⟩], .seq (.ops [.grp none [⟨some 4, none, .move (.const (.slice none 0 0)), []⟩, ⟨some 5, none, .move (.const (.int .i64 0)), []⟩]]) 
 (.seq (.ops [.grp none [⟨some 12, none, .move (.tmp 0), []⟩, ⟨some 13, none, .move (.tmp 1), []⟩, ⟨some 14, none, .call 48 #[.tmp 12, .tmp 13], []⟩, ⟨some 11, none, .move (.tmp 14), []⟩, ⟨some 15, none, .extract (.tmp 11) 0, []⟩, ⟨some 16, none, .extract (.tmp 11) 1, []⟩, ⟨some 6, none, .move (.tmp 15), []⟩, ⟨some 7, none, .move (.tmp 16), []⟩]]) 
 (.seq 
 (.seq (.ops [.grp none [⟨some 17, none, .move (.tmp 7), []⟩, ⟨some 18, none, .bin .neq 27 (.tmp 17) (.const (.int .i64 0)), []⟩]]) 
 (.cond (.tmp 18) 
 (.seq (.ops [.grp none [⟨some 19, none, .move (.tmp 7), []⟩, ⟨some 4, none, .move (.const (.slice none 0 0)), []⟩, ⟨some 5, none, .move (.tmp 19), []⟩]]) .ret) .skip)) 
 (.seq (.ops [.grp none [⟨some 20, none, .move (.tmp 6), []⟩, ⟨some 21, none, .nonnil (.tmp 20), []⟩, ⟨some 22, none, .faddr 0 (.tmp 21), []⟩, ⟨some 23, none, .load none (.tmp 22), []⟩, ⟨some 24, none, .bin .sub 3 (.tmp 23) (.const (.int .i64 1)), []⟩, ⟨some 25, none, .nonnil (.tmp 20), []⟩, ⟨some 26, none, .faddr 0 (.tmp 25), []⟩, ⟨none, none, .store 1 (.tmp 26) (.tmp 24), []⟩]]) 
 (.seq 
 (.seq (.ops [.grp none [⟨some 27, none, .move (.tmp 6), []⟩, ⟨some 28, none, .nonnil (.tmp 27), []⟩, ⟨some 29, none, .faddr 0 (.tmp 28), []⟩, ⟨some 30, none, .load none (.tmp 29), []⟩, ⟨some 31, none, .bin .gtr 3 (.tmp 30) (.const (.int .i64 0)), []⟩]]) 
 (.cond (.tmp 31) 
 (.seq (.ops [.grp none [⟨some 4, none, .move (.const (.slice none 0 0)), []⟩, ⟨some 5, none, .move (.const (.int .i64 0)), []⟩]]) .ret) .skip)) 
 (.seq (.ops [.grp none [⟨some 32, none, .move (.tmp 0), []⟩, ⟨some 33, none, .move (.tmp 1), []⟩, ⟨some 34, none, .call 20 #[.tmp 32, .tmp 33], []⟩, ⟨some 8, none, .move (.tmp 34), []⟩]]) 
 (.seq 
 (.seq (.ops [.grp none [⟨some 35, none, .move (.tmp 8), []⟩, ⟨some 36, none, .len (.tmp 35), []⟩, ⟨some 37, none, .move (.const (.int .i64 0)), []⟩]]) 
 (.block 0 
 (.loop 
 (.seq (.ops [.grp none [⟨some 38, none, .bin .lss 3 (.tmp 37) (.tmp 36), []⟩]]) 
 (.seq 
 (.cond (.tmp 38) .skip (.exit 0)) 
 (.seq 
 (.block 1 
 (.seq (.ops [.grp none [⟨some 39, none, .iaddr 1 (.tmp 35) (.tmp 37), []⟩, ⟨some 40, none, .load none (.tmp 39), []⟩, ⟨some 10, none, .move (.tmp 40), []⟩]]) (.ops [.grp none [⟨some 41, none, .move (.tmp 0), []⟩, ⟨some 42, none, .nonnil (.tmp 41), []⟩, ⟨some 43, none, .faddr 2 (.tmp 42), []⟩, ⟨some 44, none, .load none (.tmp 43), []⟩, ⟨some 45, none, .move (.tmp 10), []⟩, ⟨none, none, .delete .i64 (.tmp 44) (.tmp 45), []⟩]]))) (.ops [.grp none [⟨some 46, none, .bin .add 3 (.tmp 37) (.const (.int .i64 1)), []⟩, ⟨some 37, none, .move (.tmp 46), []⟩]]))))))) 
 (.seq (.ops [.grp none [⟨some 47, none, .move (.tmp 0), []⟩, ⟨some 48, none, .nonnil (.tmp 47), []⟩, ⟨some 49, none, .faddr 1 (.tmp 48), []⟩, ⟨some 50, none, .load none (.tmp 49), []⟩, ⟨some 51, none, .move (.tmp 1), []⟩, ⟨none, none, .delete .i64 (.tmp 50) (.tmp 51), []⟩]]) 
 (.seq (.ops [.grp none [⟨some 52, none, .move (.tmp 8), []⟩, ⟨some 4, none, .move (.tmp 52), []⟩, ⟨some 5, none, .move (.const (.int .i64 0)), []⟩]]) .ret))))))))⟩
theorem low19 : lowG Try.prog 19 = some g19 := by kernel_rfl

def g20 : GFn :=
 ⟨35, [⟨4, none⟩], .seq (.ops [.grp none [⟨some 4, none, .move (.const (.slice none 0 0)), []⟩]]) 
 (.seq (.ops [.grp none [⟨some 5, none, .move (.const (.slice none 0 0)), []⟩]]) 
 (.seq (.ops [.grp none [⟨some 11, none, .move (.tmp 0), []⟩, ⟨some 12, none, .move (.tmp 1), []⟩, ⟨some 13, none, .call 48 #[.tmp 11, .tmp 12], []⟩, ⟨some 10, none, .move (.tmp 13), []⟩, ⟨some 14, none, .extract (.tmp 10) 0, []⟩, ⟨some 15, none, .extract (.tmp 10) 1, []⟩, ⟨some 6, none, .move (.tmp 14), []⟩, ⟨some 7, none, .move (.tmp 15), []⟩]]) 
 (.seq 
 (.seq (.ops [.grp none [⟨some 16, none, .move (.tmp 7), []⟩, ⟨some 17, none, .bin .neq 27 (.tmp 16) (.const (.int .i64 0)), []⟩]]) 
 (.cond (.tmp 17) 
 (.seq (.ops [.grp none [⟨some 18, none, .move (.tmp 5), []⟩, ⟨some 4, none, .move (.tmp 18), []⟩]]) .ret) .skip)) 
 (.seq 
 (.seq (.ops [.grp none [⟨some 19, none, .move (.tmp 6), []⟩, ⟨some 20, none, .nonnil (.tmp 19), []⟩, ⟨some 21, none, .faddr 1 (.tmp 20), []⟩, ⟨some 22, none, .load none (.tmp 21), []⟩, ⟨some 23, none, .raw (Op.range 83 (.tmp 22)) 0, []⟩]]) 
 (.block 0 
 (.loop 
 (.seq (.ops [.grp none [⟨some 24, none, .raw (Op.next (.tmp 23) false) 0, []⟩, ⟨some 25, none, .extract (.tmp 24) 0, []⟩]]) 
 (.seq 
 (.cond (.tmp 25) .skip (.exit 0)) 
 (.block 1 
 (.seq (.ops [.grp none [⟨some 26, none, .raw (Op.entry (.tmp 23)) 0, []⟩, ⟨some 27, none, .extract (.tmp 26) 1, []⟩, ⟨some 9, none, .move (.tmp 27), []⟩]]) (.ops [.grp none [⟨some 28, none, .move (.tmp 5), []⟩, ⟨some 29, none, .move (.tmp 9), []⟩, ⟨some 30, none, .row 3 1 1 #[.int .i64 0] [(0, .tmp 29)], []⟩, ⟨some 31, none, .append 3 1 8 (.tmp 28) (.tmp 30), []⟩, ⟨some 5, none, .move (.tmp 31), []⟩]])))))))) 
 (.seq (.ops [.grp none [⟨some 32, none, .move (.tmp 5), []⟩, ⟨some 33, none, .call 50 #[.tmp 32], []⟩]]) 
 (.seq (.ops [.grp none [⟨some 34, none, .move (.tmp 5), []⟩, ⟨some 4, none, .move (.tmp 34), []⟩]]) .ret))))))⟩
theorem low20 : lowG Try.prog 20 = some g20 := by kernel_rfl

def g21 : GFn :=
 ⟨10, [⟨2, none⟩], .seq (.ops [.grp none [⟨some 2, none, .move (.const (.int .i64 0)), []⟩]]) 
 (.seq 
 (.seq (.ops [.grp none [⟨some 3, none, .move (.tmp 0), []⟩, ⟨some 4, none, .bin .eql 23 (.tmp 3) (.const (.pointer none)), []⟩]]) 
 (.cond (.tmp 4) 
 (.seq (.ops [.grp none [⟨some 2, none, .move (.const (.int .i64 0)), []⟩]]) .ret) .skip)) 
 (.seq (.ops [.grp none [⟨some 5, none, .move (.tmp 0), []⟩, ⟨some 6, none, .nonnil (.tmp 5), []⟩, ⟨some 7, none, .faddr 1 (.tmp 6), []⟩, ⟨some 8, none, .load none (.tmp 7), []⟩, ⟨some 9, none, .lenMap (.tmp 8), []⟩, ⟨some 2, none, .move (.tmp 9), []⟩]]) .ret))⟩
theorem low21 : lowG Try.prog 21 = some g21 := by kernel_rfl

def g24 : GFn :=
 ⟨26, [⟨4, none⟩, ⟨5, none⟩, ⟨6, none⟩], .seq (.ops [.grp none [⟨some 4, none, .move (.const (.int .i64 0)), []⟩, ⟨some 5, none, .move (.const (.int .i64 0)), []⟩, ⟨some 6, none, .move (.const (.int .i64 0)), []⟩]]) 
 (.seq 
 (.seq (.ops [.grp none [⟨some 9, none, .move (.tmp 0), []⟩, ⟨some 10, none, .bin .eql 23 (.tmp 9) (.const (.pointer none)), []⟩]]) 
 (.cond (.tmp 10) 
 (.seq (.ops [.grp none [⟨some 4, none, .move (.const (.int .i64 0)), []⟩, ⟨some 5, none, .move (.const (.int .i64 0)), []⟩, ⟨some 6, none, .move (.const (.int .i64 1)), []⟩]]) .ret) .skip)) 
 (.seq (.ops [.grp none [⟨some 12, none, .move (.tmp 0), []⟩, ⟨some 13, none, .nonnil (.tmp 12), []⟩, ⟨some 14, none, .faddr 2 (.tmp 13), []⟩, ⟨some 15, none, .load none (.tmp 14), []⟩, ⟨some 16, none, .move (.tmp 1), []⟩, ⟨some 17, none, .lookup .i64 (.agg #[.int .i64 0, .int .i64 0]) (.tmp 15) (.tmp 16) true, []⟩, ⟨some 11, none, .move (.tmp 17), []⟩, ⟨some 18, none, .extract (.tmp 11) 0, []⟩, ⟨some 19, none, .extract (.tmp 11) 1, []⟩, ⟨some 7, none, .zero 91 #[.int .i64 0, .int .i64 0], []⟩, ⟨none, none, .store 2 (.tmp 7) (.tmp 18), []⟩, ⟨some 8, none, .move (.tmp 19), []⟩]]) 
 (.seq 
 (.seq (.ops [.grp none [⟨some 20, none, .move (.tmp 8), []⟩, ⟨some 21, none, .un .not (.tmp 20), []⟩]]) 
 (.cond (.tmp 21) 
 (.seq (.ops [.grp none [⟨some 4, none, .move (.const (.int .i64 0)), []⟩, ⟨some 5, none, .move (.const (.int .i64 0)), []⟩, ⟨some 6, none, .move (.const (.int .i64 6)), []⟩]]) .ret) .skip)) 
 (.seq (.ops [.grp none [⟨some 22, none, .faddr 0 (.tmp 7), []⟩, ⟨some 23, none, .load none (.tmp 22), []⟩, ⟨some 24, none, .faddr 1 (.tmp 7), []⟩, ⟨some 25, none, .load none (.tmp 24), []⟩, ⟨some 4, none, .move (.tmp 23), []⟩, ⟨some 5, none, .move (.tmp 25), []⟩, ⟨some 6, none, .move (.const (.int .i64 0)), []⟩]]) .ret))))⟩
theorem low24 : lowG Try.prog 24 = some g24 := by kernel_rfl

def g25 : GFn :=
 ⟨33, [⟨6, none⟩, ⟨7, none⟩], .seq (.ops [.grp none [⟨some 6, none, .move (.const (.int .i64 0)), []⟩, ⟨some 7, none, .move (.const (.int .i64 0)), []⟩]]) 
 (.seq (.ops [.grp none [⟨some 13, none, .move (.tmp 0), []⟩, ⟨some 14, none, .move (.tmp 1), []⟩, ⟨some 15, none, .call 48 #[.tmp 13, .tmp 14], []⟩, ⟨some 12, none, .move (.tmp 15), []⟩, ⟨some 16, none, .extract (.tmp 12) 0, []⟩, ⟨some 17, none, .extract (.tmp 12) 1, []⟩, ⟨some 8, none, .move (.tmp 16), []⟩, ⟨some 9, none, .move (.tmp 17), []⟩]]) 
 (.seq 
 (.seq (.ops [.grp none [⟨some 18, none, .move (.tmp 9), []⟩, ⟨some 19, none, .bin .neq 27 (.tmp 18) (.const (.int .i64 0)), []⟩]]) 
 (.cond (.tmp 19) 
 (.seq (.ops [.grp none [⟨some 20, none, .move (.tmp 9), []⟩, ⟨some 6, none, .move (.const (.int .i64 0)), []⟩, ⟨some 7, none, .move (.tmp 20), []⟩]]) .ret) .skip)) 
 (.seq (.ops [.grp none [⟨some 22, none, .move (.tmp 8), []⟩, ⟨some 23, none, .nonnil (.tmp 22), []⟩, ⟨some 24, none, .faddr 1 (.tmp 23), []⟩, ⟨some 25, none, .load none (.tmp 24), []⟩, ⟨some 26, none, .move (.tmp 2), []⟩, ⟨some 27, none, .lookup .i64 (.int .i64 0) (.tmp 25) (.tmp 26) true, []⟩, ⟨some 21, none, .move (.tmp 27), []⟩, ⟨some 28, none, .extract (.tmp 21) 0, []⟩, ⟨some 29, none, .extract (.tmp 21) 1, []⟩, ⟨some 10, none, .move (.tmp 28), []⟩, ⟨some 11, none, .move (.tmp 29), []⟩]]) 
 (.seq 
 (.seq (.ops [.grp none [⟨some 30, none, .move (.tmp 11), []⟩, ⟨some 31, none, .un .not (.tmp 30), []⟩]]) 
 (.cond (.tmp 31) 
 (.seq (.ops [.grp none [⟨some 6, none, .move (.const (.int .i64 0)), []⟩, ⟨some 7, none, .move (.const (.int .i64 6)), []⟩]]) .ret) .skip)) 
 (.seq (.ops [.grp none [⟨some 32, none, .move (.tmp 10), []⟩, ⟨some 6, none, .move (.tmp 32), []⟩, ⟨some 7, none, .move (.const (.int .i64 0)), []⟩]]) .ret)))))⟩
theorem low25 : lowG Try.prog 25 = some g25 := by kernel_rfl

def g27 : GFn :=
 ⟨63, [⟨6, none⟩], .seq (.ops [.grp none [⟨some 6, none, .move (.const (.int .i64 0)), []⟩]]) 
 (.seq (.ops [.grp none [⟨some 13, none, .move (.tmp 0), []⟩, ⟨some 14, none, .move (.tmp 1), []⟩, ⟨some 15, none, .call 24 #[.tmp 13, .tmp 14], []⟩, ⟨some 12, none, .move (.tmp 15), []⟩, ⟨some 16, none, .extract (.tmp 12) 0, []⟩, ⟨some 17, none, .extract (.tmp 12) 1, []⟩, ⟨some 18, none, .extract (.tmp 12) 2, []⟩, ⟨some 7, none, .move (.tmp 16), []⟩, ⟨some 8, none, .move (.tmp 17), []⟩, ⟨some 9, none, .move (.tmp 18), []⟩]]) 
 (.seq 
 (.seq (.ops [.grp none [⟨some 19, none, .move (.tmp 9), []⟩, ⟨some 20, none, .bin .neq 27 (.tmp 19) (.const (.int .i64 0)), []⟩]]) 
 (.cond (.tmp 20) 
 (.seq (.ops [.grp none [⟨some 21, none, .move (.tmp 9), []⟩, ⟨some 6, none, .move (.tmp 21), []⟩]]) .ret) .skip)) 
 (.seq 
 (.seq (.ops [.grp none [⟨some 22, none, .move (.tmp 2), []⟩, ⟨some 23, none, .call 49 #[.tmp 22], []⟩, ⟨some 24, none, .un .not (.tmp 23), []⟩]]) 
 (.cond (.tmp 24) 
 (.seq (.ops [.grp none [⟨some 6, none, .move (.const (.int .i64 3)), []⟩]]) .ret) .skip)) 
 (.seq 
 (.seq (.ops [.grp none [⟨some 26, none, .move (.tmp 0), []⟩, ⟨some 27, none, .nonnil (.tmp 26), []⟩, ⟨some 28, none, .faddr 2 (.tmp 27), []⟩, ⟨some 29, none, .load none (.tmp 28), []⟩, ⟨some 30, none, .move (.tmp 2), []⟩, ⟨some 31, none, .lookup .i64 (.agg #[.int .i64 0, .int .i64 0]) (.tmp 29) (.tmp 30) true, []⟩, ⟨some 25, none, .move (.tmp 31), []⟩, ⟨some 32, none, .extract (.tmp 25) 0, []⟩, ⟨some 33, none, .extract (.tmp 25) 1, []⟩, ⟨some 10, none, .zero 91 #[.int .i64 0, .int .i64 0], []⟩, ⟨none, none, .store 2 (.tmp 10) (.tmp 32), []⟩, ⟨some 11, none, .move (.tmp 33), []⟩]]) 
 (.seq (.ops [.grp none [⟨some 34, none, .move (.tmp 11), []⟩]]) 
 (.cond (.tmp 34) 
 (.seq (.ops [.grp none [⟨some 6, none, .move (.const (.int .i64 7)), []⟩]]) .ret) .skip))) 
 (.seq (.ops [.grp none [⟨some 35, none, .move (.tmp 0), []⟩, ⟨some 36, none, .nonnil (.tmp 35), []⟩, ⟨some 37, none, .faddr 2 (.tmp 36), []⟩, ⟨some 38, none, .load none (.tmp 37), []⟩, ⟨some 39, none, .move (.tmp 1), []⟩, ⟨none, none, .delete .i64 (.tmp 38) (.tmp 39), []⟩]]) 
 (.seq (.ops [.grp none [⟨some 40, none, .move (.tmp 0), []⟩, ⟨some 41, none, .nonnil (.tmp 40), []⟩, ⟨some 42, none, .faddr 1 (.tmp 41), []⟩, ⟨some 43, none, .load none (.tmp 42), []⟩, ⟨some 44, none, .move (.tmp 7), []⟩, ⟨some 45, none, .lookup .i64 (.pointer none) (.tmp 43) (.tmp 44) false, []⟩, ⟨some 46, none, .nonnil (.tmp 45), []⟩, ⟨some 47, none, .faddr 1 (.tmp 46), []⟩, ⟨some 48, none, .load none (.tmp 47), []⟩, ⟨some 49, none, .move (.tmp 8), []⟩, ⟨some 50, none, .move (.tmp 0), []⟩, ⟨some 51, none, .nonnil (.tmp 50), []⟩, ⟨some 52, none, .faddr 2 (.tmp 51), []⟩, ⟨some 53, none, .load none (.tmp 52), []⟩, ⟨some 54, none, .move (.tmp 2), []⟩, ⟨some 55, none, .move (.tmp 2), []⟩, ⟨some 56, none, .move (.tmp 7), []⟩, ⟨some 57, none, .move (.tmp 8), []⟩, ⟨some 58, none, .build #[(0, 1), (1, 1)] #[.int .i64 0, .int .i64 0] [(0, .tmp 56), (1, .tmp 57)], []⟩, ⟨some 59, none, .raw (Op.mapEntry 83 (.tmp 48) (.tmp 49)) 0, []⟩, ⟨some 60, none, .extract (.tmp 59) 1, []⟩, ⟨none, none, .raw (Op.entryStore 83 (.tmp 48) (.tmp 60) (.tmp 55)) 0, []⟩, ⟨some 61, none, .raw (Op.mapEntry 79 (.tmp 53) (.tmp 54)) 0, []⟩, ⟨some 62, none, .extract (.tmp 61) 1, []⟩, ⟨none, none, .raw (Op.entryStore 79 (.tmp 53) (.tmp 62) (.tmp 58)) 0, []⟩]]) 
 (.seq (.ops [.grp none [⟨some 6, none, .move (.const (.int .i64 0)), []⟩]]) .ret)))))))⟩
theorem low27 : lowG Try.prog 27 = some g27 := by kernel_rfl

def g48 : GFn :=
 ⟨18, [⟨4, none⟩, ⟨5, none⟩], .seq (.ops [.grp none [⟨some 4, none, .move (.const (.pointer none)), []⟩, ⟨some 5, none, .move (.const (.int .i64 0)), []⟩]]) 
 (.seq 
 (.seq (.ops [.grp none [⟨some 7, none, .move (.tmp 0), []⟩, ⟨some 8, none, .bin .eql 23 (.tmp 7) (.const (.pointer none)), []⟩]]) 
 (.cond (.tmp 8) 
 (.seq (.ops [.grp none [⟨some 4, none, .move (.const (.pointer none)), []⟩, ⟨some 5, none, .move (.const (.int .i64 1)), []⟩]]) .ret) .skip)) 
 (.seq (.ops [.grp none [⟨some 9, none, .move (.tmp 0), []⟩, ⟨some 10, none, .nonnil (.tmp 9), []⟩, ⟨some 11, none, .faddr 1 (.tmp 10), []⟩, ⟨some 12, none, .load none (.tmp 11), []⟩, ⟨some 13, none, .move (.tmp 1), []⟩, ⟨some 14, none, .lookup .i64 (.pointer none) (.tmp 12) (.tmp 13) false, []⟩, ⟨some 6, none, .move (.tmp 14), []⟩]]) 
 (.seq 
 (.seq (.ops [.grp none [⟨some 15, none, .move (.tmp 6), []⟩, ⟨some 16, none, .bin .eql 82 (.tmp 15) (.const (.pointer none)), []⟩]]) 
 (.cond (.tmp 16) 
 (.seq (.ops [.grp none [⟨some 4, none, .move (.const (.pointer none)), []⟩, ⟨some 5, none, .move (.const (.int .i64 6)), []⟩]]) .ret) .skip)) 
 (.seq (.ops [.grp none [⟨some 17, none, .move (.tmp 6), []⟩, ⟨some 4, none, .move (.tmp 17), []⟩, ⟨some 5, none, .move (.const (.int .i64 0)), []⟩]]) .ret))))⟩
theorem low48 : lowG Try.prog 48 = some g48 := by kernel_rfl

def g49 : GFn :=
 ⟨9, [⟨2, none⟩], .seq (.ops [.grp none [⟨some 2, none, .move (.const (.bool false)), []⟩]]) 
 (.seq (.ops [.grp none [⟨some 3, none, .move (.tmp 0), []⟩, ⟨some 4, none, .bin .geq 3 (.tmp 3) (.const (.int .i64 0)), []⟩, ⟨some 5, none, .move (.tmp 4), []⟩],
  .grp (some (some 5, true)) [⟨some 6, none, .move (.tmp 0), []⟩, ⟨some 7, none, .bin .lss 3 (.tmp 6) (.const (.int .i64 1024)), []⟩],
  .grp none [⟨some 8, none, .pick (.tmp 5) (.tmp 7) (.const (.bool false)), []⟩, ⟨some 2, none, .move (.tmp 8), []⟩]]) .ret)⟩
theorem low49 : lowG Try.prog 49 = some g49 := by kernel_rfl

def g23 : GFn :=
 ⟨25, [⟨2, none⟩], .seq (.ops [.grp none [⟨some 2, none, .move (.const (.int .i64 0)), []⟩]]) 
 (.seq (.ops [.grp none [⟨some 3, none, .move (.const (.int .i64 0)), []⟩]]) 
 (.seq 
 (.seq (.ops [.grp none [⟨some 4, none, .move (.const (.int .i64 0)), []⟩]]) 
 (.block 0 
 (.loop 
 (.seq 
 (.seq (.ops [.grp none [⟨some 5, none, .move (.tmp 4), []⟩, ⟨some 6, none, .move (.tmp 0), []⟩, ⟨some 7, none, .nonnil (.tmp 6), []⟩, ⟨some 8, none, .faddr 0 (.tmp 7), []⟩, ⟨some 9, none, .load none (.tmp 8), []⟩, ⟨some 10, none, .len (.tmp 9), []⟩, ⟨some 11, none, .bin .lss 3 (.tmp 5) (.tmp 10), []⟩]]) 
 (.cond (.tmp 11) .skip (.exit 0))) 
 (.seq 
 (.block 1 
 (.seq (.ops [.grp none [⟨some 14, none, .move (.tmp 0), []⟩, ⟨some 15, none, .nonnil (.tmp 14), []⟩, ⟨some 16, none, .faddr 0 (.tmp 15), []⟩, ⟨some 17, none, .load none (.tmp 16), []⟩, ⟨some 18, none, .move (.tmp 4), []⟩, ⟨some 19, none, .iaddr 1 (.tmp 17) (.tmp 18), []⟩, ⟨some 20, none, .load none (.tmp 19), []⟩, ⟨some 21, none, .bin .gtr 3 (.tmp 20) (.const (.int .i64 0)), []⟩]]) 
 (.cond (.tmp 21) (.ops [.grp none [⟨some 22, none, .move (.tmp 3), []⟩, ⟨some 23, none, .bin .add 3 (.tmp 22) (.const (.int .i64 1)), []⟩, ⟨some 3, none, .move (.tmp 23), []⟩]]) .skip))) (.ops [.grp none [⟨some 12, none, .move (.tmp 4), []⟩, ⟨some 13, none, .bin .add 3 (.tmp 12) (.const (.int .i64 1)), []⟩, ⟨some 4, none, .move (.tmp 13), []⟩]])))))) 
 (.seq (.ops [.grp none [⟨some 24, none, .move (.tmp 3), []⟩, ⟨some 2, none, .move (.tmp 24), []⟩]]) .ret)))⟩
theorem low23 : lowG Try.prog 23 = some g23 := by kernel_rfl

def g26 : GFn :=
 ⟨29, [⟨4, none⟩, ⟨5, none⟩, ⟨6, none⟩], .seq (.ops [.grp none [⟨some 4, none, .move (.const (.int .i64 0)), []⟩, ⟨some 5, none, .move (.const (.int .i64 0)), []⟩, ⟨some 6, none, .move (.const (.int .i64 0)), []⟩]]) 
 (.seq (.ops [.grp none [⟨some 8, none, .move (.tmp 0), []⟩, ⟨some 9, none, .move (.tmp 1), []⟩, ⟨some 10, none, .call 52 #[.tmp 8, .tmp 9], []⟩, ⟨some 7, none, .move (.tmp 10), []⟩]]) 
 (.seq 
 (.seq (.ops [.grp none [⟨some 11, none, .move (.tmp 7), []⟩, ⟨some 12, none, .bin .lss 3 (.tmp 11) (.const (.int .i64 0)), []⟩]]) 
 (.cond (.tmp 12) 
 (.seq (.ops [.grp none [⟨some 4, none, .move (.const (.int .i64 0)), []⟩, ⟨some 5, none, .move (.const (.int .i64 0)), []⟩, ⟨some 6, none, .move (.const (.int .i64 6)), []⟩]]) .ret) .skip)) 
 (.seq (.ops [.grp none [⟨some 13, none, .move (.tmp 0), []⟩, ⟨some 14, none, .nonnil (.tmp 13), []⟩, ⟨some 15, none, .faddr 1 (.tmp 14), []⟩, ⟨some 16, none, .load none (.tmp 15), []⟩, ⟨some 17, none, .move (.tmp 7), []⟩, ⟨some 18, none, .iaddr 3 (.tmp 16) (.tmp 17), []⟩, ⟨some 19, none, .faddr 0 (.tmp 18), []⟩, ⟨some 20, none, .load none (.tmp 19), []⟩, ⟨some 21, none, .move (.tmp 0), []⟩, ⟨some 22, none, .nonnil (.tmp 21), []⟩, ⟨some 23, none, .faddr 1 (.tmp 22), []⟩, ⟨some 24, none, .load none (.tmp 23), []⟩, ⟨some 25, none, .move (.tmp 7), []⟩, ⟨some 26, none, .iaddr 3 (.tmp 24) (.tmp 25), []⟩, ⟨some 27, none, .faddr 1 (.tmp 26), []⟩, ⟨some 28, none, .load none (.tmp 27), []⟩, ⟨some 4, none, .move (.tmp 20), []⟩, ⟨some 5, none, .move (.tmp 28), []⟩, ⟨some 6, none, .move (.const (.int .i64 0)), []⟩]]) .ret)))⟩
theorem low26 : lowG Try.prog 26 = some g26 := by kernel_rfl

def g29 : GFn :=
 ⟨34, [⟨4, none⟩], .seq (.ops [.grp none [⟨some 4, none, .move (.const (.slice none 0 0)), []⟩]]) 
 (.seq (.ops [.grp none [⟨some 5, none, .move (.const (.slice none 0 0)), []⟩]]) 
 (.seq 
 (.seq (.ops [.grp none [⟨some 6, none, .move (.const (.int .i64 0)), []⟩]]) 
 (.block 0 
 (.loop 
 (.seq 
 (.seq (.ops [.grp none [⟨some 8, none, .move (.tmp 6), []⟩, ⟨some 9, none, .bin .lss 3 (.tmp 8) (.const (.int .i64 1024)), []⟩]]) 
 (.cond (.tmp 9) .skip (.exit 0))) 
 (.seq 
 (.block 1 
 (.seq (.ops [.grp none [⟨some 12, none, .move (.tmp 0), []⟩, ⟨some 13, none, .move (.tmp 6), []⟩, ⟨some 14, none, .call 52 #[.tmp 12, .tmp 13], []⟩, ⟨some 7, none, .move (.tmp 14), []⟩]]) 
 (.seq (.ops [.grp none [⟨some 15, none, .move (.tmp 7), []⟩, ⟨some 16, none, .bin .geq 3 (.tmp 15) (.const (.int .i64 0)), []⟩, ⟨some 17, none, .move (.tmp 16), []⟩],
  .grp (some (some 17, true)) [⟨some 18, none, .move (.tmp 0), []⟩, ⟨some 19, none, .nonnil (.tmp 18), []⟩, ⟨some 20, none, .faddr 1 (.tmp 19), []⟩, ⟨some 21, none, .load none (.tmp 20), []⟩, ⟨some 22, none, .move (.tmp 7), []⟩, ⟨some 23, none, .iaddr 3 (.tmp 21) (.tmp 22), []⟩, ⟨some 24, none, .faddr 0 (.tmp 23), []⟩, ⟨some 25, none, .load none (.tmp 24), []⟩, ⟨some 26, none, .move (.tmp 1), []⟩, ⟨some 27, none, .bin .eql 3 (.tmp 25) (.tmp 26), []⟩],
  .grp none [⟨some 28, none, .pick (.tmp 17) (.tmp 27) (.const (.bool false)), []⟩]]) 
 (.cond (.tmp 28) (.ops [.grp none [⟨some 29, none, .move (.tmp 5), []⟩, ⟨some 30, none, .move (.tmp 6), []⟩, ⟨some 31, none, .row 3 1 1 #[.int .i64 0] [(0, .tmp 30)], []⟩, ⟨some 32, none, .append 3 1 8 (.tmp 29) (.tmp 31), []⟩, ⟨some 5, none, .move (.tmp 32), []⟩]]) .skip)))) (.ops [.grp none [⟨some 10, none, .move (.tmp 6), []⟩, ⟨some 11, none, .bin .add 3 (.tmp 10) (.const (.int .i64 1)), []⟩, ⟨some 6, none, .move (.tmp 11), []⟩]])))))) 
 (.seq (.ops [.grp none [⟨some 33, none, .move (.tmp 5), []⟩, ⟨some 4, none, .move (.tmp 33), []⟩]]) .ret)))⟩
theorem low29 : lowG Try.prog 29 = some g29 := by kernel_rfl

def g52 : GFn :=
 ⟨26, [⟨4, none⟩], .seq (.ops [.grp none [⟨some 4, none, .move (.const (.int .i64 0)), []⟩]]) 
 (.seq 
 (.seq (.ops [.grp none [⟨some 5, none, .move (.const (.int .i64 0)), []⟩]]) 
 (.block 0 
 (.loop 
 (.seq 
 (.seq (.ops [.grp none [⟨some 6, none, .move (.tmp 5), []⟩, ⟨some 7, none, .move (.tmp 0), []⟩, ⟨some 8, none, .nonnil (.tmp 7), []⟩, ⟨some 9, none, .faddr 1 (.tmp 8), []⟩, ⟨some 10, none, .load none (.tmp 9), []⟩, ⟨some 11, none, .len (.tmp 10), []⟩, ⟨some 12, none, .bin .lss 3 (.tmp 6) (.tmp 11), []⟩]]) 
 (.cond (.tmp 12) .skip (.exit 0))) 
 (.seq 
 (.block 1 
 (.seq (.ops [.grp none [⟨some 15, none, .move (.tmp 0), []⟩, ⟨some 16, none, .nonnil (.tmp 15), []⟩, ⟨some 17, none, .faddr 1 (.tmp 16), []⟩, ⟨some 18, none, .load none (.tmp 17), []⟩, ⟨some 19, none, .move (.tmp 5), []⟩, ⟨some 20, none, .iaddr 3 (.tmp 18) (.tmp 19), []⟩, ⟨some 21, none, .faddr 2 (.tmp 20), []⟩, ⟨some 22, none, .load none (.tmp 21), []⟩, ⟨some 23, none, .move (.tmp 1), []⟩, ⟨some 24, none, .bin .eql 3 (.tmp 22) (.tmp 23), []⟩]]) 
 (.cond (.tmp 24) 
 (.seq (.ops [.grp none [⟨some 25, none, .move (.tmp 5), []⟩, ⟨some 4, none, .move (.tmp 25), []⟩]]) .ret) .skip))) (.ops [.grp none [⟨some 13, none, .move (.tmp 5), []⟩, ⟨some 14, none, .bin .add 3 (.tmp 13) (.const (.int .i64 1)), []⟩, ⟨some 5, none, .move (.tmp 14), []⟩]])))))) 
 (.seq (.ops [.grp none [⟨some 4, none, .move (.const (.int .i64 (-1))), []⟩]]) .ret))⟩
theorem low52 : lowG Try.prog 52 = some g52 := by kernel_rfl

def g70 : GFn :=
 ⟨18, [⟨2, none⟩], .seq (.ops [.grp none [⟨some 2, none, .move (.const (.int .i64 0)), []⟩]]) 
 (.seq (.ops [.grp none [⟨some 3, none, .move (.tmp 0), []⟩, ⟨some 4, none, .move (.tmp 0), []⟩, ⟨some 5, none, .nonnil (.tmp 4), []⟩, ⟨some 6, none, .faddr 0 (.tmp 5), []⟩, ⟨some 7, none, .load none (.tmp 6), []⟩, ⟨some 8, none, .row 3 1 1 #[.int .i64 0] [(0, .const (.int .i64 1))], []⟩, ⟨some 9, none, .append 3 1 8 (.tmp 7) (.tmp 8), []⟩, ⟨some 10, none, .nonnil (.tmp 3), []⟩, ⟨some 11, none, .faddr 0 (.tmp 10), []⟩, ⟨none, none, .store 1 (.tmp 11) (.tmp 9), []⟩]]) 
 (.seq (.ops [.grp none [⟨some 12, none, .move (.tmp 0), []⟩, ⟨some 13, none, .nonnil (.tmp 12), []⟩, ⟨some 14, none, .faddr 0 (.tmp 13), []⟩, ⟨some 15, none, .load none (.tmp 14), []⟩, ⟨some 16, none, .len (.tmp 15), []⟩, ⟨some 17, none, .bin .sub 3 (.tmp 16) (.const (.int .i64 1)), []⟩, ⟨some 2, none, .move (.tmp 17), []⟩]]) .ret))⟩
theorem low70 : lowG Try.prog 70 = some g70 := by kernel_rfl

def g71 : GFn :=
 ⟨23, [⟨4, none⟩], .seq (.ops [.grp none [⟨some 4, none, .move (.const (.int .i64 0)), []⟩]]) 
 (.seq 
 (.seq (.ops [.grp none [⟨some 5, none, .move (.tmp 0), []⟩, ⟨some 6, none, .move (.tmp 1), []⟩, ⟨some 7, none, .call 87 #[.tmp 5, .tmp 6], []⟩, ⟨some 8, none, .un .not (.tmp 7), []⟩]]) 
 (.cond (.tmp 8) 
 (.seq (.ops [.grp none [⟨some 4, none, .move (.const (.int .i64 6)), []⟩]]) .ret) .skip)) 
 (.seq (.ops [.grp none [⟨some 9, none, .move (.tmp 0), []⟩, ⟨some 10, none, .nonnil (.tmp 9), []⟩, ⟨some 11, none, .faddr 0 (.tmp 10), []⟩, ⟨some 12, none, .load none (.tmp 11), []⟩, ⟨some 13, none, .move (.tmp 1), []⟩, ⟨some 14, none, .move (.tmp 0), []⟩, ⟨some 15, none, .nonnil (.tmp 14), []⟩, ⟨some 16, none, .faddr 0 (.tmp 15), []⟩, ⟨some 17, none, .load none (.tmp 16), []⟩, ⟨some 18, none, .move (.tmp 1), []⟩, ⟨some 19, none, .iaddr 1 (.tmp 17) (.tmp 18), []⟩, ⟨some 20, none, .load none (.tmp 19), []⟩, ⟨some 21, none, .bin .add 3 (.tmp 20) (.const (.int .i64 1)), []⟩, ⟨some 22, none, .iaddr 1 (.tmp 12) (.tmp 13), []⟩, ⟨none, none, .store 1 (.tmp 22) (.tmp 21), []⟩]]) 
 (.seq (.ops [.grp none [⟨some 4, none, .move (.const (.int .i64 0)), []⟩]]) .ret)))⟩
theorem low71 : lowG Try.prog 71 = some g71 := by kernel_rfl

def g72 : GFn :=
 ⟨72, [⟨4, none⟩, ⟨5, none⟩], .seq (.ops [.grp none [⟨some 4, none, .move (.const (.slice none 0 0)), []⟩, ⟨some 5, none, .move (.const (.int .i64 0)), []⟩]]) 
 (.seq 
 (.seq (.ops [.grp none [⟨some 9, none, .move (.tmp 0), []⟩, ⟨some 10, none, .move (.tmp 1), []⟩, ⟨some 11, none, .call 87 #[.tmp 9, .tmp 10], []⟩, ⟨some 12, none, .un .not (.tmp 11), []⟩]]) 
 (.cond (.tmp 12) 
 (.seq (.ops [.grp none [⟨some 4, none, .move (.const (.slice none 0 0)), []⟩, ⟨some 5, none, .move (.const (.int .i64 6)), []⟩]]) .ret) .skip)) 
 (.seq (.ops [.grp none [⟨some 13, none, .move (.tmp 0), []⟩, ⟨some 14, none, .nonnil (.tmp 13), []⟩, ⟨some 15, none, .faddr 0 (.tmp 14), []⟩, ⟨some 16, none, .load none (.tmp 15), []⟩, ⟨some 17, none, .move (.tmp 1), []⟩, ⟨some 18, none, .move (.tmp 0), []⟩, ⟨some 19, none, .nonnil (.tmp 18), []⟩, ⟨some 20, none, .faddr 0 (.tmp 19), []⟩, ⟨some 21, none, .load none (.tmp 20), []⟩, ⟨some 22, none, .move (.tmp 1), []⟩, ⟨some 23, none, .iaddr 1 (.tmp 21) (.tmp 22), []⟩, ⟨some 24, none, .load none (.tmp 23), []⟩, ⟨some 25, none, .bin .sub 3 (.tmp 24) (.const (.int .i64 1)), []⟩, ⟨some 26, none, .iaddr 1 (.tmp 16) (.tmp 17), []⟩, ⟨none, none, .store 1 (.tmp 26) (.tmp 25), []⟩]]) 
 (.seq 
 (.seq (.ops [.grp none [⟨some 27, none, .move (.tmp 0), []⟩, ⟨some 28, none, .nonnil (.tmp 27), []⟩, ⟨some 29, none, .faddr 0 (.tmp 28), []⟩, ⟨some 30, none, .load none (.tmp 29), []⟩, ⟨some 31, none, .move (.tmp 1), []⟩, ⟨some 32, none, .iaddr 1 (.tmp 30) (.tmp 31), []⟩, ⟨some 33, none, .load none (.tmp 32), []⟩, ⟨some 34, none, .bin .gtr 3 (.tmp 33) (.const (.int .i64 0)), []⟩]]) 
 (.cond (.tmp 34) 
 (.seq (.ops [.grp none [⟨some 4, none, .move (.const (.slice none 0 0)), []⟩, ⟨some 5, none, .move (.const (.int .i64 0)), []⟩]]) .ret) .skip)) 
 (.seq (.ops [.grp none [⟨some 35, none, .move (.tmp 0), []⟩, ⟨some 36, none, .move (.tmp 1), []⟩, ⟨some 37, none, .call 29 #[.tmp 35, .tmp 36], []⟩, ⟨some 6, none, .move (.tmp 37), []⟩]]) 
 (.seq (.ops [.grp none [⟨some 7, none, .move (.const (.slice none 0 0)), []⟩]]) 
 (.seq 
 (.seq (.ops [.grp none [⟨some 8, none, .move (.const (.int .i64 0)), []⟩]]) 
 (.block 0 
 (.loop 
 (.seq 
 (.seq (.ops [.grp none [⟨some 38, none, .move (.tmp 8), []⟩, ⟨some 39, none, .move (.tmp 0), []⟩, ⟨some 40, none, .nonnil (.tmp 39), []⟩, ⟨some 41, none, .faddr 1 (.tmp 40), []⟩, ⟨some 42, none, .load none (.tmp 41), []⟩, ⟨some 43, none, .len (.tmp 42), []⟩, ⟨some 44, none, .bin .lss 3 (.tmp 38) (.tmp 43), []⟩]]) 
 (.cond (.tmp 44) .skip (.exit 0))) 
 (.seq 
 (.block 1 
 (.seq (.ops [.grp none [⟨some 47, none, .move (.tmp 0), []⟩, ⟨some 48, none, .nonnil (.tmp 47), []⟩, ⟨some 49, none, .faddr 1 (.tmp 48), []⟩, ⟨some 50, none, .load none (.tmp 49), []⟩, ⟨some 51, none, .move (.tmp 8), []⟩, ⟨some 52, none, .iaddr 3 (.tmp 50) (.tmp 51), []⟩, ⟨some 53, none, .faddr 0 (.tmp 52), []⟩, ⟨some 54, none, .load none (.tmp 53), []⟩, ⟨some 55, none, .move (.tmp 1), []⟩, ⟨some 56, none, .bin .neq 3 (.tmp 54) (.tmp 55), []⟩]]) 
 (.cond (.tmp 56) (.ops [.grp none [⟨some 57, none, .move (.tmp 7), []⟩, ⟨some 58, none, .move (.tmp 0), []⟩, ⟨some 59, none, .nonnil (.tmp 58), []⟩, ⟨some 60, none, .faddr 1 (.tmp 59), []⟩, ⟨some 61, none, .load none (.tmp 60), []⟩, ⟨some 62, none, .move (.tmp 8), []⟩, ⟨some 63, none, .iaddr 3 (.tmp 61) (.tmp 62), []⟩, ⟨some 64, none, .load (some 3) (.tmp 63), []⟩, ⟨some 65, none, .row 96 3 1 #[.int .i64 0, .int .i64 0, .int .i64 0] [(0, .tmp 64)], []⟩, ⟨some 66, none, .append 96 3 24 (.tmp 57) (.tmp 65), []⟩, ⟨some 7, none, .move (.tmp 66), []⟩]]) .skip))) (.ops [.grp none [⟨some 45, none, .move (.tmp 8), []⟩, ⟨some 46, none, .bin .add 3 (.tmp 45) (.const (.int .i64 1)), []⟩, ⟨some 8, none, .move (.tmp 46), []⟩]])))))) 
 (.seq (.ops [.grp none [⟨some 67, none, .move (.tmp 0), []⟩, ⟨some 68, none, .move (.tmp 7), []⟩, ⟨some 69, none, .nonnil (.tmp 67), []⟩, ⟨some 70, none, .faddr 1 (.tmp 69), []⟩, ⟨none, none, .store 1 (.tmp 70) (.tmp 68), []⟩]]) 
 (.seq (.ops [.grp none [⟨some 71, none, .move (.tmp 6), []⟩, ⟨some 4, none, .move (.tmp 71), []⟩, ⟨some 5, none, .move (.const (.int .i64 0)), []⟩]]) .ret))))))))⟩
theorem low72 : lowG Try.prog 72 = some g72 := by kernel_rfl

def g73 : GFn :=
 ⟨57, [⟨8, none⟩], .seq (.ops [.grp none [⟨some 8, none, .move (.const (.int .i64 0)), []⟩]]) 
 (.seq 
 (.seq (.ops [.grp none [⟨some 11, none, .move (.tmp 0), []⟩, ⟨some 12, none, .move (.tmp 1), []⟩, ⟨some 13, none, .call 87 #[.tmp 11, .tmp 12], []⟩, ⟨some 14, none, .un .not (.tmp 13), []⟩]]) 
 (.cond (.tmp 14) 
 (.seq (.ops [.grp none [⟨some 8, none, .move (.const (.int .i64 6)), []⟩]]) .ret) .skip)) 
 (.seq 
 (.seq (.ops [.grp none [⟨some 15, none, .move (.tmp 2), []⟩, ⟨some 16, none, .bin .lss 3 (.tmp 15) (.const (.int .i64 0)), []⟩, ⟨some 17, none, .move (.tmp 16), []⟩],
  .grp (some (some 17, false)) [⟨some 18, none, .move (.tmp 2), []⟩, ⟨some 19, none, .bin .gtr 3 (.tmp 18) (.const (.int .i64 4095)), []⟩],
  .grp none [⟨some 20, none, .pick (.tmp 17) (.const (.bool true)) (.tmp 19), []⟩, ⟨some 21, none, .move (.tmp 20), []⟩],
  .grp (some (some 21, false)) [⟨some 22, none, .move (.tmp 3), []⟩, ⟨some 23, none, .bin .lss 3 (.tmp 22) (.const (.int .i64 0)), []⟩],
  .grp none [⟨some 24, none, .pick (.tmp 21) (.const (.bool true)) (.tmp 23), []⟩, ⟨some 25, none, .move (.tmp 24), []⟩],
  .grp (some (some 25, false)) [⟨some 26, none, .move (.tmp 3), []⟩, ⟨some 27, none, .bin .gtr 3 (.tmp 26) (.const (.int .i64 1023)), []⟩],
  .grp none [⟨some 28, none, .pick (.tmp 25) (.const (.bool true)) (.tmp 27), []⟩]]) 
 (.cond (.tmp 28) 
 (.seq (.ops [.grp none [⟨some 8, none, .move (.const (.int .i64 3)), []⟩]]) .ret) .skip)) 
 (.seq (.ops [.grp none [⟨some 30, none, .move (.tmp 0), []⟩, ⟨some 31, none, .move (.tmp 1), []⟩, ⟨some 32, none, .move (.tmp 2), []⟩, ⟨some 33, none, .call 88 #[.tmp 30, .tmp 31, .tmp 32], []⟩, ⟨some 29, none, .move (.tmp 33), []⟩, ⟨some 34, none, .extract (.tmp 29) 0, []⟩, ⟨some 35, none, .extract (.tmp 29) 1, []⟩, ⟨some 9, none, .move (.tmp 34), []⟩, ⟨some 10, none, .move (.tmp 35), []⟩]]) 
 (.seq 
 (.seq (.ops [.grp none [⟨some 36, none, .move (.tmp 10), []⟩, ⟨some 37, none, .bin .eql 27 (.tmp 36) (.const (.int .i64 0)), []⟩, ⟨some 38, none, .move (.tmp 37), []⟩],
  .grp (some (some 38, false)) [⟨some 39, none, .move (.tmp 0), []⟩, ⟨some 40, none, .move (.tmp 3), []⟩, ⟨some 41, none, .call 52 #[.tmp 39, .tmp 40], []⟩, ⟨some 42, none, .bin .geq 3 (.tmp 41) (.const (.int .i64 0)), []⟩],
  .grp none [⟨some 43, none, .pick (.tmp 38) (.const (.bool true)) (.tmp 42), []⟩]]) 
 (.cond (.tmp 43) 
 (.seq (.ops [.grp none [⟨some 8, none, .move (.const (.int .i64 7)), []⟩]]) .ret) .skip)) 
 (.seq (.ops [.grp none [⟨some 44, none, .move (.tmp 0), []⟩, ⟨some 45, none, .move (.tmp 0), []⟩, ⟨some 46, none, .nonnil (.tmp 45), []⟩, ⟨some 47, none, .faddr 1 (.tmp 46), []⟩, ⟨some 48, none, .load none (.tmp 47), []⟩, ⟨some 49, none, .move (.tmp 1), []⟩, ⟨some 50, none, .move (.tmp 2), []⟩, ⟨some 51, none, .move (.tmp 3), []⟩, ⟨some 52, none, .build #[(0, 1), (1, 1), (2, 1)] #[.int .i64 0, .int .i64 0, .int .i64 0] [(0, .tmp 49), (1, .tmp 50), (2, .tmp 51)], []⟩, ⟨some 53, none, .row 96 3 1 #[.int .i64 0, .int .i64 0, .int .i64 0] [(0, .tmp 52)], []⟩, ⟨some 54, none, .append 96 3 24 (.tmp 48) (.tmp 53), []⟩, ⟨some 55, none, .nonnil (.tmp 44), []⟩, ⟨some 56, none, .faddr 1 (.tmp 55), []⟩, ⟨none, none, .store 1 (.tmp 56) (.tmp 54), []⟩]]) 
 (.seq (.ops [.grp none [⟨some 8, none, .move (.const (.int .i64 0)), []⟩]]) .ret))))))⟩
theorem low73 : lowG Try.prog 73 = some g73 := by kernel_rfl

def g74 : GFn :=
 ⟨40, [⟨6, none⟩], .seq (.ops [.grp none [⟨some 6, none, .move (.const (.int .i64 0)), []⟩]]) 
 (.seq (.ops [.grp none [⟨some 8, none, .move (.tmp 0), []⟩, ⟨some 9, none, .move (.tmp 1), []⟩, ⟨some 10, none, .call 52 #[.tmp 8, .tmp 9], []⟩, ⟨some 7, none, .move (.tmp 10), []⟩]]) 
 (.seq 
 (.seq (.ops [.grp none [⟨some 11, none, .move (.tmp 7), []⟩, ⟨some 12, none, .bin .lss 3 (.tmp 11) (.const (.int .i64 0)), []⟩]]) 
 (.cond (.tmp 12) 
 (.seq (.ops [.grp none [⟨some 6, none, .move (.const (.int .i64 6)), []⟩]]) .ret) .skip)) 
 (.seq 
 (.seq (.ops [.grp none [⟨some 13, none, .move (.tmp 2), []⟩, ⟨some 14, none, .bin .lss 3 (.tmp 13) (.const (.int .i64 0)), []⟩, ⟨some 15, none, .move (.tmp 14), []⟩],
  .grp (some (some 15, false)) [⟨some 16, none, .move (.tmp 2), []⟩, ⟨some 17, none, .bin .gtr 3 (.tmp 16) (.const (.int .i64 1023)), []⟩],
  .grp none [⟨some 18, none, .pick (.tmp 15) (.const (.bool true)) (.tmp 17), []⟩]]) 
 (.cond (.tmp 18) 
 (.seq (.ops [.grp none [⟨some 6, none, .move (.const (.int .i64 3)), []⟩]]) .ret) .skip)) 
 (.seq 
 (.seq (.ops [.grp none [⟨some 19, none, .move (.tmp 0), []⟩, ⟨some 20, none, .move (.tmp 2), []⟩, ⟨some 21, none, .call 52 #[.tmp 19, .tmp 20], []⟩, ⟨some 22, none, .bin .geq 3 (.tmp 21) (.const (.int .i64 0)), []⟩]]) 
 (.cond (.tmp 22) 
 (.seq (.ops [.grp none [⟨some 6, none, .move (.const (.int .i64 7)), []⟩]]) .ret) .skip)) 
 (.seq (.ops [.grp none [⟨some 23, none, .move (.tmp 0), []⟩, ⟨some 24, none, .row 96 3 0 #[] [], []⟩, ⟨some 25, none, .move (.tmp 0), []⟩, ⟨some 26, none, .nonnil (.tmp 25), []⟩, ⟨some 27, none, .faddr 1 (.tmp 26), []⟩, ⟨some 28, none, .load none (.tmp 27), []⟩, ⟨some 29, none, .append 96 3 24 (.tmp 24) (.tmp 28), []⟩, ⟨some 30, none, .nonnil (.tmp 23), []⟩, ⟨some 31, none, .faddr 1 (.tmp 30), []⟩, ⟨none, none, .store 1 (.tmp 31) (.tmp 29), []⟩]]) 
 (.seq (.ops [.grp none [⟨some 32, none, .move (.tmp 0), []⟩, ⟨some 33, none, .nonnil (.tmp 32), []⟩, ⟨some 34, none, .faddr 1 (.tmp 33), []⟩, ⟨some 35, none, .load none (.tmp 34), []⟩, ⟨some 36, none, .move (.tmp 7), []⟩, ⟨some 37, none, .move (.tmp 2), []⟩, ⟨some 38, none, .iaddr 3 (.tmp 35) (.tmp 36), []⟩, ⟨some 39, none, .faddr 2 (.tmp 38), []⟩, ⟨none, none, .store 1 (.tmp 39) (.tmp 37), []⟩]]) 
 (.seq (.ops [.grp none [⟨some 6, none, .move (.const (.int .i64 0)), []⟩]]) .ret)))))))⟩
theorem low74 : lowG Try.prog 74 = some g74 := by kernel_rfl

def g87 : GFn :=
 ⟨26, [⟨4, none⟩], .seq (.ops [.grp none [⟨some 4, none, .move (.const (.bool false)), []⟩]]) 
 (.seq (.ops [.grp none [⟨some 5, none, .move (.tmp 1), []⟩, ⟨some 6, none, .bin .geq 3 (.tmp 5) (.const (.int .i64 0)), []⟩, ⟨some 7, none, .move (.tmp 6), []⟩],
  .grp (some (some 7, true)) [⟨some 8, none, .move (.tmp 1), []⟩, ⟨some 9, none, .move (.tmp 0), []⟩, ⟨some 10, none, .nonnil (.tmp 9), []⟩, ⟨some 11, none, .faddr 0 (.tmp 10), []⟩, ⟨some 12, none, .load none (.tmp 11), []⟩, ⟨some 13, none, .len (.tmp 12), []⟩, ⟨some 14, none, .bin .lss 3 (.tmp 8) (.tmp 13), []⟩],
  .grp none [⟨some 15, none, .pick (.tmp 7) (.tmp 14) (.const (.bool false)), []⟩, ⟨some 16, none, .move (.tmp 15), []⟩],
  .grp (some (some 16, true)) [⟨some 17, none, .move (.tmp 0), []⟩, ⟨some 18, none, .nonnil (.tmp 17), []⟩, ⟨some 19, none, .faddr 0 (.tmp 18), []⟩, ⟨some 20, none, .load none (.tmp 19), []⟩, ⟨some 21, none, .move (.tmp 1), []⟩, ⟨some 22, none, .iaddr 1 (.tmp 20) (.tmp 21), []⟩, ⟨some 23, none, .load none (.tmp 22), []⟩, ⟨some 24, none, .bin .gtr 3 (.tmp 23) (.const (.int .i64 0)), []⟩],
  .grp none [⟨some 25, none, .pick (.tmp 16) (.tmp 24) (.const (.bool false)), []⟩, ⟨some 4, none, .move (.tmp 25), []⟩]]) .ret)⟩
theorem low87 : lowG Try.prog 87 = some g87 := by kernel_rfl

def g88 : GFn :=
 ⟨48, [⟨6, none⟩, ⟨7, none⟩], .seq (.ops [.grp none [⟨some 6, none, .move (.const (.int .i64 0)), []⟩, ⟨some 7, none, .move (.const (.int .i64 0)), []⟩]]) 
 (.seq 
 (.seq (.ops [.grp none [⟨some 8, none, .move (.const (.int .i64 0)), []⟩]]) 
 (.block 0 
 (.loop 
 (.seq 
 (.seq (.ops [.grp none [⟨some 9, none, .move (.tmp 8), []⟩, ⟨some 10, none, .move (.tmp 0), []⟩, ⟨some 11, none, .nonnil (.tmp 10), []⟩, ⟨some 12, none, .faddr 1 (.tmp 11), []⟩, ⟨some 13, none, .load none (.tmp 12), []⟩, ⟨some 14, none, .len (.tmp 13), []⟩, ⟨some 15, none, .bin .lss 3 (.tmp 9) (.tmp 14), []⟩]]) 
 (.cond (.tmp 15) .skip (.exit 0))) 
 (.seq 
 (.block 1 
 (.seq (.ops [.grp none [⟨some 18, none, .move (.tmp 0), []⟩, ⟨some 19, none, .nonnil (.tmp 18), []⟩, ⟨some 20, none, .faddr 1 (.tmp 19), []⟩, ⟨some 21, none, .load none (.tmp 20), []⟩, ⟨some 22, none, .move (.tmp 8), []⟩, ⟨some 23, none, .iaddr 3 (.tmp 21) (.tmp 22), []⟩, ⟨some 24, none, .faddr 0 (.tmp 23), []⟩, ⟨some 25, none, .load none (.tmp 24), []⟩, ⟨some 26, none, .move (.tmp 1), []⟩, ⟨some 27, none, .bin .eql 3 (.tmp 25) (.tmp 26), []⟩, ⟨some 28, none, .move (.tmp 27), []⟩],
  .grp (some (some 28, true)) [⟨some 29, none, .move (.tmp 0), []⟩, ⟨some 30, none, .nonnil (.tmp 29), []⟩, ⟨some 31, none, .faddr 1 (.tmp 30), []⟩, ⟨some 32, none, .load none (.tmp 31), []⟩, ⟨some 33, none, .move (.tmp 8), []⟩, ⟨some 34, none, .iaddr 3 (.tmp 32) (.tmp 33), []⟩, ⟨some 35, none, .faddr 1 (.tmp 34), []⟩, ⟨some 36, none, .load none (.tmp 35), []⟩, ⟨some 37, none, .move (.tmp 2), []⟩, ⟨some 38, none, .bin .eql 3 (.tmp 36) (.tmp 37), []⟩],
  .grp none [⟨some 39, none, .pick (.tmp 28) (.tmp 38) (.const (.bool false)), []⟩]]) 
 (.cond (.tmp 39) 
 (.seq (.ops [.grp none [⟨some 40, none, .move (.tmp 0), []⟩, ⟨some 41, none, .nonnil (.tmp 40), []⟩, ⟨some 42, none, .faddr 1 (.tmp 41), []⟩, ⟨some 43, none, .load none (.tmp 42), []⟩, ⟨some 44, none, .move (.tmp 8), []⟩, ⟨some 45, none, .iaddr 3 (.tmp 43) (.tmp 44), []⟩, ⟨some 46, none, .faddr 2 (.tmp 45), []⟩, ⟨some 47, none, .load none (.tmp 46), []⟩, ⟨some 6, none, .move (.tmp 47), []⟩, ⟨some 7, none, .move (.const (.int .i64 0)), []⟩]]) .ret) .skip))) (.ops [.grp none [⟨some 16, none, .move (.tmp 8), []⟩, ⟨some 17, none, .bin .add 3 (.tmp 16) (.const (.int .i64 1)), []⟩, ⟨some 8, none, .move (.tmp 17), []⟩]])))))) 
 (.seq (.ops [.grp none [⟨some 6, none, .move (.const (.int .i64 0)), []⟩, ⟨some 7, none, .move (.const (.int .i64 6)), []⟩]]) .ret))⟩
theorem low88 : lowG Try.prog 88 = some g88 := by kernel_rfl

def g3 : GFn :=
 ⟨124, [⟨4, none⟩], .seq (.ops [.grp none [⟨some 4, none, .move (.const (.bool false)), []⟩]]) 
 (.seq (.ops [.grp none [⟨some 18, none, .call 14 #[], []⟩, ⟨some 5, none, .move (.tmp 18), []⟩]]) 
 (.seq 
 (.seq (.ops [.grp none [⟨some 19, none, .move (.tmp 5), []⟩, ⟨some 20, none, .bin .eql 23 (.tmp 19) (.const (.pointer none)), []⟩, ⟨some 21, none, .move (.tmp 20), []⟩],
  .grp (some (some 21, false)) [⟨some 22, none, .call 15 #[], []⟩, ⟨some 23, none, .un .not (.tmp 22), []⟩],
  .grp none [⟨some 24, none, .pick (.tmp 21) (.const (.bool true)) (.tmp 23), []⟩]]) 
 (.cond (.tmp 24) 
 (.seq (.ops [.grp none [⟨some 4, none, .move (.const (.bool false)), []⟩]]) .ret) .skip)) 
 (.seq (.ops [.grp none [⟨some 25, none, .move (.tmp 5), []⟩, ⟨some 26, none, .call 16 #[.tmp 25], []⟩]]) 
 (.seq (.ops [.grp none [⟨some 27, none, .move (.tmp 5), []⟩, ⟨some 28, none, .call 16 #[.tmp 27], []⟩, ⟨some 6, none, .move (.tmp 28), []⟩]]) 
 (.seq (.ops [.grp none [⟨some 7, none, .move (.const (.int .i64 0)), []⟩]]) 
 (.seq 
 (.seq (.ops [.grp none [⟨some 8, none, .move (.const (.int .i64 0)), []⟩]]) 
 (.block 0 
 (.loop 
 (.seq 
 (.seq (.ops [.grp none [⟨some 29, none, .move (.tmp 8), []⟩, ⟨some 30, none, .move (.tmp 1), []⟩, ⟨some 31, none, .len (.tmp 30), []⟩, ⟨some 32, none, .bin .lss 3 (.tmp 29) (.tmp 31), []⟩, ⟨some 33, none, .move (.tmp 32), []⟩],
  .grp (some (some 33, true)) [⟨some 34, none, .move (.tmp 8), []⟩, ⟨some 35, none, .bin .lss 3 (.tmp 34) (.const (.int .i64 50)), []⟩],
  .grp none [⟨some 36, none, .pick (.tmp 33) (.tmp 35) (.const (.bool false)), []⟩]]) 
 (.cond (.tmp 36) .skip (.exit 0))) 
 (.seq 
 (.block 1 
 (.seq (.ops [.grp none [⟨some 39, none, .move (.tmp 5), []⟩, ⟨some 40, none, .move (.tmp 6), []⟩, ⟨some 41, none, .move (.tmp 1), []⟩, ⟨some 42, none, .move (.tmp 8), []⟩, ⟨some 43, none, .iaddr 1 (.tmp 41) (.tmp 42), []⟩, ⟨some 44, none, .load none (.tmp 43), []⟩, ⟨some 45, none, .move (.tmp 8), []⟩, ⟨some 46, none, .bin .add 3 (.const (.int .i64 10)) (.tmp 45), []⟩, ⟨some 47, none, .call 17 #[.tmp 39, .tmp 40, .tmp 44, .tmp 46], []⟩, ⟨some 48, none, .bin .eql 27 (.tmp 47) (.const (.int .i64 0)), []⟩]]) 
 (.cond (.tmp 48) (.ops [.grp none [⟨some 49, none, .move (.tmp 7), []⟩, ⟨some 50, none, .bin .add 3 (.tmp 49) (.const (.int .i64 1)), []⟩, ⟨some 7, none, .move (.tmp 50), []⟩]]) .skip))) (.ops [.grp none [⟨some 37, none, .move (.tmp 8), []⟩, ⟨some 38, none, .bin .add 3 (.tmp 37) (.const (.int .i64 1)), []⟩, ⟨some 8, none, .move (.tmp 38), []⟩]])))))) 
 (.seq (.ops [.grp none [⟨some 51, none, .move (.tmp 0), []⟩, ⟨some 52, none, .bin .rem 5 (.tmp 51) (.const (.int .u8 20)), []⟩, ⟨some 53, none, .conv .i64 (.tmp 52), []⟩, ⟨some 9, none, .move (.tmp 53), []⟩]]) 
 (.seq 
 (.seq (.ops [.grp none [⟨some 10, none, .move (.const (.int .i64 0)), []⟩]]) 
 (.block 2 
 (.loop 
 (.seq 
 (.seq (.ops [.grp none [⟨some 54, none, .move (.tmp 10), []⟩, ⟨some 55, none, .move (.tmp 9), []⟩, ⟨some 56, none, .bin .lss 3 (.tmp 54) (.tmp 55), []⟩]]) 
 (.cond (.tmp 56) .skip (.exit 2))) 
 (.seq 
 (.block 3 
 (.seq (.ops [.grp none [⟨some 59, none, .move (.tmp 5), []⟩, ⟨some 60, none, .move (.tmp 6), []⟩, ⟨some 61, none, .call 18 #[.tmp 59, .tmp 60], []⟩, ⟨some 62, none, .bin .neq 27 (.tmp 61) (.const (.int .i64 0)), []⟩]]) 
 (.cond (.tmp 62) 
 (.seq (.ops [.grp none [⟨some 4, none, .move (.const (.bool false)), []⟩]]) .ret) .skip))) (.ops [.grp none [⟨some 57, none, .move (.tmp 10), []⟩, ⟨some 58, none, .bin .add 3 (.tmp 57) (.const (.int .i64 1)), []⟩, ⟨some 10, none, .move (.tmp 58), []⟩]])))))) 
 (.seq 
 (.seq (.ops [.grp none [⟨some 11, none, .move (.const (.int .i64 0)), []⟩]]) 
 (.block 4 
 (.loop 
 (.seq 
 (.seq (.ops [.grp none [⟨some 63, none, .move (.tmp 11), []⟩, ⟨some 64, none, .move (.tmp 9), []⟩, ⟨some 65, none, .bin .lss 3 (.tmp 63) (.tmp 64), []⟩]]) 
 (.cond (.tmp 65) .skip (.exit 4))) 
 (.seq 
 (.block 5 
 (.seq (.ops [.grp none [⟨some 69, none, .move (.tmp 5), []⟩, ⟨some 70, none, .move (.tmp 6), []⟩, ⟨some 71, none, .call 19 #[.tmp 69, .tmp 70], []⟩, ⟨some 68, none, .move (.tmp 71), []⟩, ⟨some 72, none, .extract (.tmp 68) 0, []⟩, ⟨some 73, none, .extract (.tmp 68) 1, []⟩, ⟨some 12, none, .move (.tmp 72), []⟩, ⟨some 13, none, .move (.tmp 73), []⟩]]) 
 (.seq (.ops [.grp none [⟨some 74, none, .move (.tmp 13), []⟩, ⟨some 75, none, .bin .neq 27 (.tmp 74) (.const (.int .i64 0)), []⟩, ⟨some 76, none, .move (.tmp 75), []⟩],
  .grp (some (some 76, false)) [⟨some 77, none, .move (.tmp 12), []⟩, ⟨some 78, none, .len (.tmp 77), []⟩, ⟨some 79, none, .bin .gtr 3 (.tmp 78) (.const (.int .i64 0)), []⟩],
  .grp none [⟨some 80, none, .pick (.tmp 76) (.const (.bool true)) (.tmp 79), []⟩, ⟨some 81, none, .move (.tmp 80), []⟩],
  .grp (some (some 81, false)) [⟨some 82, none, .move (.tmp 5), []⟩, ⟨some 83, none, .move (.tmp 6), []⟩, ⟨some 84, none, .call 20 #[.tmp 82, .tmp 83], []⟩, ⟨some 85, none, .len (.tmp 84), []⟩, ⟨some 86, none, .move (.tmp 7), []⟩, ⟨some 87, none, .bin .neq 3 (.tmp 85) (.tmp 86), []⟩],
  .grp none [⟨some 88, none, .pick (.tmp 81) (.const (.bool true)) (.tmp 87), []⟩]]) 
 (.cond (.tmp 88) 
 (.seq (.ops [.grp none [⟨some 4, none, .move (.const (.bool false)), []⟩]]) .ret) .skip)))) (.ops [.grp none [⟨some 66, none, .move (.tmp 11), []⟩, ⟨some 67, none, .bin .add 3 (.tmp 66) (.const (.int .i64 1)), []⟩, ⟨some 11, none, .move (.tmp 67), []⟩]])))))) 
 (.seq (.ops [.grp none [⟨some 90, none, .move (.tmp 5), []⟩, ⟨some 91, none, .move (.tmp 6), []⟩, ⟨some 92, none, .call 19 #[.tmp 90, .tmp 91], []⟩, ⟨some 89, none, .move (.tmp 92), []⟩, ⟨some 93, none, .extract (.tmp 89) 0, []⟩, ⟨some 94, none, .extract (.tmp 89) 1, []⟩, ⟨some 14, none, .move (.tmp 93), []⟩, ⟨some 15, none, .move (.tmp 94), []⟩]]) 
 (.seq (.ops [.grp none [⟨some 96, none, .move (.tmp 5), []⟩, ⟨some 97, none, .move (.tmp 6), []⟩, ⟨some 98, none, .call 19 #[.tmp 96, .tmp 97], []⟩, ⟨some 95, none, .move (.tmp 98), []⟩, ⟨some 99, none, .extract (.tmp 95) 0, []⟩, ⟨some 100, none, .extract (.tmp 95) 1, []⟩, ⟨some 16, none, .move (.tmp 99), []⟩, ⟨some 17, none, .move (.tmp 100), []⟩]]) 
 (.seq (.ops [.grp none [⟨some 101, none, .move (.tmp 15), []⟩, ⟨some 102, none, .bin .eql 27 (.tmp 101) (.const (.int .i64 0)), []⟩, ⟨some 103, none, .move (.tmp 102), []⟩],
  .grp (some (some 103, true)) [⟨some 104, none, .move (.tmp 14), []⟩, ⟨some 105, none, .len (.tmp 104), []⟩, ⟨some 106, none, .move (.tmp 7), []⟩, ⟨some 107, none, .bin .eql 3 (.tmp 105) (.tmp 106), []⟩],
  .grp none [⟨some 108, none, .pick (.tmp 103) (.tmp 107) (.const (.bool false)), []⟩, ⟨some 109, none, .move (.tmp 108), []⟩],
  .grp (some (some 109, true)) [⟨some 110, none, .move (.tmp 17), []⟩, ⟨some 111, none, .bin .eql 27 (.tmp 110) (.const (.int .i64 6)), []⟩],
  .grp none [⟨some 112, none, .pick (.tmp 109) (.tmp 111) (.const (.bool false)), []⟩, ⟨some 113, none, .move (.tmp 112), []⟩],
  .grp (some (some 113, true)) [⟨some 114, none, .move (.tmp 5), []⟩, ⟨some 115, none, .call 21 #[.tmp 114], []⟩, ⟨some 116, none, .bin .eql 3 (.tmp 115) (.const (.int .i64 1)), []⟩],
  .grp none [⟨some 117, none, .pick (.tmp 113) (.tmp 116) (.const (.bool false)), []⟩, ⟨some 118, none, .move (.tmp 117), []⟩],
  .grp (some (some 118, true)) [⟨some 119, none, .move (.tmp 5), []⟩, ⟨some 120, none, .move (.tmp 6), []⟩, ⟨some 121, none, .call 18 #[.tmp 119, .tmp 120], []⟩, ⟨some 122, none, .bin .eql 27 (.tmp 121) (.const (.int .i64 6)), []⟩],
  .grp none [⟨some 123, none, .pick (.tmp 118) (.tmp 122) (.const (.bool false)), []⟩, ⟨some 4, none, .move (.tmp 123), []⟩]]) .ret))))))))))))⟩
theorem low3 : lowG Try.prog 3 = some g3 := by kernel_rfl

def g4 : GFn :=
 ⟨47, [⟨2, none⟩], .seq (.ops [.grp none [⟨some 2, none, .move (.const (.bool false)), []⟩]]) 
 (.seq (.ops [.grp none [⟨some 10, none, .move (.tmp 0), []⟩, ⟨some 11, none, .call 22 #[.tmp 10], []⟩, ⟨some 9, none, .move (.tmp 11), []⟩, ⟨some 12, none, .extract (.tmp 9) 0, []⟩, ⟨some 13, none, .extract (.tmp 9) 1, []⟩, ⟨some 14, none, .extract (.tmp 9) 2, []⟩, ⟨some 3, none, .move (.tmp 12), []⟩, ⟨some 4, none, .move (.tmp 13), []⟩, ⟨some 5, none, .move (.tmp 14), []⟩]]) 
 (.seq 
 (.seq (.ops [.grp none [⟨some 15, none, .move (.tmp 5), []⟩, ⟨some 16, none, .un .not (.tmp 15), []⟩, ⟨some 17, none, .move (.tmp 16), []⟩],
  .grp (some (some 17, false)) [⟨some 18, none, .call 15 #[], []⟩, ⟨some 19, none, .un .not (.tmp 18), []⟩],
  .grp none [⟨some 20, none, .pick (.tmp 17) (.const (.bool true)) (.tmp 19), []⟩]]) 
 (.cond (.tmp 20) 
 (.seq (.ops [.grp none [⟨some 2, none, .move (.const (.bool false)), []⟩]]) .ret) .skip)) 
 (.seq (.ops [.grp none [⟨some 21, none, .move (.tmp 4), []⟩, ⟨some 22, none, .nonnil (.tmp 21), []⟩, ⟨some 23, none, .faddr 0 (.tmp 22), []⟩, ⟨some 24, none, .load none (.tmp 23), []⟩, ⟨some 25, none, .len (.tmp 24), []⟩, ⟨some 6, none, .move (.tmp 25), []⟩]]) 
 (.seq 
 (.seq (.ops [.grp none [⟨some 7, none, .move (.const (.int .i64 0)), []⟩]]) 
 (.block 0 
 (.loop 
 (.seq 
 (.seq (.ops [.grp none [⟨some 26, none, .move (.tmp 7), []⟩, ⟨some 27, none, .bin .lss 3 (.tmp 26) (.const (.int .i64 3)), []⟩]]) 
 (.cond (.tmp 27) .skip (.exit 0))) 
 (.seq 
 (.block 1 
 (.seq 
 (.seq (.ops [.grp none [⟨some 30, none, .move (.tmp 3), []⟩, ⟨some 31, none, .call 16 #[.tmp 30], []⟩, ⟨some 8, none, .move (.tmp 31), []⟩]]) 
 (.seq (.ops [.grp none [⟨some 32, none, .move (.tmp 8), []⟩, ⟨some 33, none, .move (.tmp 6), []⟩, ⟨some 34, none, .move (.tmp 7), []⟩, ⟨some 35, none, .bin .add 3 (.tmp 33) (.tmp 34), []⟩, ⟨some 36, none, .bin .neq 3 (.tmp 32) (.tmp 35), []⟩]]) 
 (.cond (.tmp 36) 
 (.seq (.ops [.grp none [⟨some 2, none, .move (.const (.bool false)), []⟩]]) .ret) .skip))) (.ops [.grp none [⟨some 37, none, .move (.tmp 3), []⟩, ⟨some 38, none, .move (.tmp 6), []⟩, ⟨some 39, none, .move (.tmp 7), []⟩, ⟨some 40, none, .bin .add 3 (.tmp 38) (.tmp 39), []⟩, ⟨some 41, none, .call 19 #[.tmp 37, .tmp 40], []⟩]]))) (.ops [.grp none [⟨some 28, none, .move (.tmp 7), []⟩, ⟨some 29, none, .bin .add 3 (.tmp 28) (.const (.int .i64 1)), []⟩, ⟨some 7, none, .move (.tmp 29), []⟩]])))))) 
 (.seq (.ops [.grp none [⟨some 42, none, .move (.tmp 3), []⟩, ⟨some 43, none, .call 21 #[.tmp 42], []⟩, ⟨some 44, none, .move (.tmp 4), []⟩, ⟨some 45, none, .call 23 #[.tmp 44], []⟩, ⟨some 46, none, .bin .eql 3 (.tmp 43) (.tmp 45), []⟩, ⟨some 2, none, .move (.tmp 46), []⟩]]) .ret)))))⟩
theorem low4 : lowG Try.prog 4 = some g4 := by kernel_rfl

def g5 : GFn :=
 ⟨113, [⟨2, none⟩], .seq (.ops [.grp none [⟨some 2, none, .move (.const (.bool false)), []⟩]]) 
 (.seq (.ops [.grp none [⟨some 16, none, .move (.tmp 0), []⟩, ⟨some 17, none, .call 22 #[.tmp 16], []⟩, ⟨some 15, none, .move (.tmp 17), []⟩, ⟨some 18, none, .extract (.tmp 15) 0, []⟩, ⟨some 19, none, .extract (.tmp 15) 1, []⟩, ⟨some 20, none, .extract (.tmp 15) 2, []⟩, ⟨some 3, none, .move (.tmp 18), []⟩, ⟨some 4, none, .move (.tmp 19), []⟩, ⟨some 5, none, .move (.tmp 20), []⟩]]) 
 (.seq 
 (.seq (.ops [.grp none [⟨some 21, none, .move (.tmp 5), []⟩, ⟨some 22, none, .un .not (.tmp 21), []⟩, ⟨some 23, none, .move (.tmp 22), []⟩],
  .grp (some (some 23, false)) [⟨some 24, none, .call 15 #[], []⟩, ⟨some 25, none, .un .not (.tmp 24), []⟩],
  .grp none [⟨some 26, none, .pick (.tmp 23) (.const (.bool true)) (.tmp 25), []⟩]]) 
 (.cond (.tmp 26) 
 (.seq (.ops [.grp none [⟨some 2, none, .move (.const (.bool false)), []⟩]]) .ret) .skip)) 
 (.seq (.ops [.grp none [⟨some 27, none, .raw (Op.makeSlice 42 (.const (.int .i64 1024)) (.const (.int .i64 1024))) 42, []⟩, ⟨some 6, none, .move (.tmp 27), []⟩]]) 
 (.seq 
 (.seq (.ops [.grp none [⟨some 7, none, .move (.const (.int .i64 0)), []⟩]]) 
 (.block 0 
 (.loop 
 (.seq 
 (.seq (.ops [.grp none [⟨some 28, none, .move (.tmp 7), []⟩, ⟨some 29, none, .move (.tmp 4), []⟩, ⟨some 30, none, .nonnil (.tmp 29), []⟩, ⟨some 31, none, .faddr 0 (.tmp 30), []⟩, ⟨some 32, none, .load none (.tmp 31), []⟩, ⟨some 33, none, .len (.tmp 32), []⟩, ⟨some 34, none, .bin .lss 3 (.tmp 28) (.tmp 33), []⟩]]) 
 (.cond (.tmp 34) .skip (.exit 0))) 
 (.seq 
 (.block 1 
 (.seq (.ops [.grp none [⟨some 37, none, .move (.tmp 3), []⟩, ⟨some 38, none, .move (.tmp 7), []⟩, ⟨some 39, none, .call 20 #[.tmp 37, .tmp 38], []⟩, ⟨some 8, none, .move (.tmp 39), []⟩]]) 
 (.seq (.ops [.grp none [⟨some 9, none, .move (.const (.int .i64 0)), []⟩]]) 
 (.block 2 
 (.loop 
 (.seq 
 (.seq (.ops [.grp none [⟨some 40, none, .move (.tmp 9), []⟩, ⟨some 41, none, .move (.tmp 8), []⟩, ⟨some 42, none, .len (.tmp 41), []⟩, ⟨some 43, none, .bin .lss 3 (.tmp 40) (.tmp 42), []⟩]]) 
 (.cond (.tmp 43) .skip (.exit 2))) 
 (.seq 
 (.block 3 
 (.seq (.ops [.grp none [⟨some 47, none, .move (.tmp 3), []⟩, ⟨some 48, none, .move (.tmp 8), []⟩, ⟨some 49, none, .move (.tmp 9), []⟩, ⟨some 50, none, .iaddr 1 (.tmp 48) (.tmp 49), []⟩, ⟨some 51, none, .load none (.tmp 50), []⟩, ⟨some 52, none, .call 24 #[.tmp 47, .tmp 51], []⟩, ⟨some 46, none, .move (.tmp 52), []⟩, ⟨some 53, none, .extract (.tmp 46) 0, []⟩, ⟨some 54, none, .extract (.tmp 46) 1, []⟩, ⟨some 55, none, .extract (.tmp 46) 2, []⟩, ⟨some 10, none, .move (.tmp 53), []⟩, ⟨some 11, none, .move (.tmp 54), []⟩, ⟨some 12, none, .move (.tmp 55), []⟩]]) 
 (.seq (.ops [.grp none [⟨some 57, none, .move (.tmp 3), []⟩, ⟨some 58, none, .move (.tmp 10), []⟩, ⟨some 59, none, .move (.tmp 11), []⟩, ⟨some 60, none, .call 25 #[.tmp 57, .tmp 58, .tmp 59], []⟩, ⟨some 56, none, .move (.tmp 60), []⟩, ⟨some 61, none, .extract (.tmp 56) 0, []⟩, ⟨some 62, none, .extract (.tmp 56) 1, []⟩, ⟨some 13, none, .move (.tmp 61), []⟩, ⟨some 14, none, .move (.tmp 62), []⟩]]) 
 (.seq 
 (.seq (.ops [.grp none [⟨some 63, none, .move (.tmp 6), []⟩, ⟨some 64, none, .move (.tmp 8), []⟩, ⟨some 65, none, .move (.tmp 9), []⟩, ⟨some 66, none, .iaddr 1 (.tmp 64) (.tmp 65), []⟩, ⟨some 67, none, .load none (.tmp 66), []⟩, ⟨some 68, none, .iaddr 1 (.tmp 63) (.tmp 67), []⟩, ⟨some 69, none, .load none (.tmp 68), []⟩, ⟨some 70, none, .move (.tmp 69), []⟩],
  .grp (some (some 70, false)) [⟨some 71, none, .move (.tmp 12), []⟩, ⟨some 72, none, .bin .neq 27 (.tmp 71) (.const (.int .i64 0)), []⟩],
  .grp none [⟨some 73, none, .pick (.tmp 70) (.const (.bool true)) (.tmp 72), []⟩, ⟨some 74, none, .move (.tmp 73), []⟩],
  .grp (some (some 74, false)) [⟨some 75, none, .move (.tmp 10), []⟩, ⟨some 76, none, .move (.tmp 7), []⟩, ⟨some 77, none, .bin .neq 3 (.tmp 75) (.tmp 76), []⟩],
  .grp none [⟨some 78, none, .pick (.tmp 74) (.const (.bool true)) (.tmp 77), []⟩, ⟨some 79, none, .move (.tmp 78), []⟩],
  .grp (some (some 79, false)) [⟨some 80, none, .move (.tmp 14), []⟩, ⟨some 81, none, .bin .neq 27 (.tmp 80) (.const (.int .i64 0)), []⟩],
  .grp none [⟨some 82, none, .pick (.tmp 79) (.const (.bool true)) (.tmp 81), []⟩, ⟨some 83, none, .move (.tmp 82), []⟩],
  .grp (some (some 83, false)) [⟨some 84, none, .move (.tmp 13), []⟩, ⟨some 85, none, .move (.tmp 8), []⟩, ⟨some 86, none, .move (.tmp 9), []⟩, ⟨some 87, none, .iaddr 1 (.tmp 85) (.tmp 86), []⟩, ⟨some 88, none, .load none (.tmp 87), []⟩, ⟨some 89, none, .bin .neq 3 (.tmp 84) (.tmp 88), []⟩],
  .grp none [⟨some 90, none, .pick (.tmp 83) (.const (.bool true)) (.tmp 89), []⟩, ⟨some 91, none, .move (.tmp 90), []⟩],
  .grp (some (some 91, false)) [⟨some 92, none, .move (.tmp 9), []⟩, ⟨some 93, none, .bin .gtr 3 (.tmp 92) (.const (.int .i64 0)), []⟩, ⟨some 94, none, .move (.tmp 93), []⟩],
  .grp (some (some 94, true)) [⟨some 95, none, .move (.tmp 8), []⟩, ⟨some 96, none, .move (.tmp 9), []⟩, ⟨some 97, none, .iaddr 1 (.tmp 95) (.tmp 96), []⟩, ⟨some 98, none, .load none (.tmp 97), []⟩, ⟨some 99, none, .move (.tmp 8), []⟩, ⟨some 100, none, .move (.tmp 9), []⟩, ⟨some 101, none, .bin .sub 3 (.tmp 100) (.const (.int .i64 1)), []⟩, ⟨some 102, none, .iaddr 1 (.tmp 99) (.tmp 101), []⟩, ⟨some 103, none, .load none (.tmp 102), []⟩, ⟨some 104, none, .bin .leq 3 (.tmp 98) (.tmp 103), []⟩],
  .grp (some (some 91, false)) [⟨some 105, none, .pick (.tmp 94) (.tmp 104) (.const (.bool false)), []⟩],
  .grp none [⟨some 106, none, .pick (.tmp 91) (.const (.bool true)) (.tmp 105), []⟩]]) 
 (.cond (.tmp 106) 
 (.seq (.ops [.grp none [⟨some 2, none, .move (.const (.bool false)), []⟩]]) .ret) .skip)) (.ops [.grp none [⟨some 107, none, .move (.tmp 6), []⟩, ⟨some 108, none, .move (.tmp 8), []⟩, ⟨some 109, none, .move (.tmp 9), []⟩, ⟨some 110, none, .iaddr 1 (.tmp 108) (.tmp 109), []⟩, ⟨some 111, none, .load none (.tmp 110), []⟩, ⟨some 112, none, .iaddr 1 (.tmp 107) (.tmp 111), []⟩, ⟨none, none, .store 1 (.tmp 112) (.const (.bool true)), []⟩]]))))) (.ops [.grp none [⟨some 44, none, .move (.tmp 9), []⟩, ⟨some 45, none, .bin .add 3 (.tmp 44) (.const (.int .i64 1)), []⟩, ⟨some 9, none, .move (.tmp 45), []⟩]])))))))) (.ops [.grp none [⟨some 35, none, .move (.tmp 7), []⟩, ⟨some 36, none, .bin .add 3 (.tmp 35) (.const (.int .i64 1)), []⟩, ⟨some 7, none, .move (.tmp 36), []⟩]])))))) 
 (.seq (.ops [.grp none [⟨some 2, none, .move (.const (.bool true)), []⟩]]) .ret)))))⟩
theorem low5 : lowG Try.prog 5 = some g5 := by kernel_rfl

def g6 : GFn :=
 ⟨90, [⟨6, none⟩], .seq (.ops [.grp none [⟨some 6, none, .move (.const (.bool false)), []⟩]]) 
 (.seq (.ops [.grp none [⟨some 18, none, .move (.tmp 0), []⟩, ⟨some 19, none, .call 22 #[.tmp 18], []⟩, ⟨some 17, none, .move (.tmp 19), []⟩, ⟨some 20, none, .extract (.tmp 17) 0, []⟩, ⟨some 21, none, .extract (.tmp 17) 1, []⟩, ⟨some 22, none, .extract (.tmp 17) 2, []⟩, ⟨some 7, none, .move (.tmp 20), []⟩, ⟨some 8, none, .move (.tmp 21), []⟩, ⟨some 9, none, .move (.tmp 22), []⟩]]) 
 (.seq 
 (.seq (.ops [.grp none [⟨some 23, none, .move (.tmp 9), []⟩, ⟨some 24, none, .un .not (.tmp 23), []⟩, ⟨some 25, none, .move (.tmp 24), []⟩],
  .grp (some (some 25, false)) [⟨some 26, none, .call 15 #[], []⟩, ⟨some 27, none, .un .not (.tmp 26), []⟩],
  .grp none [⟨some 28, none, .pick (.tmp 25) (.const (.bool true)) (.tmp 27), []⟩]]) 
 (.cond (.tmp 28) 
 (.seq (.ops [.grp none [⟨some 6, none, .move (.const (.bool false)), []⟩]]) .ret) .skip)) 
 (.seq (.ops [.grp none [⟨some 30, none, .move (.tmp 8), []⟩, ⟨some 31, none, .move (.tmp 1), []⟩, ⟨some 32, none, .call 26 #[.tmp 30, .tmp 31], []⟩, ⟨some 29, none, .move (.tmp 32), []⟩, ⟨some 33, none, .extract (.tmp 29) 0, []⟩, ⟨some 34, none, .extract (.tmp 29) 1, []⟩, ⟨some 35, none, .extract (.tmp 29) 2, []⟩, ⟨some 10, none, .move (.tmp 33), []⟩, ⟨some 11, none, .move (.tmp 34), []⟩, ⟨some 12, none, .move (.tmp 35), []⟩]]) 
 (.seq (.ops [.grp none [⟨some 36, none, .move (.tmp 7), []⟩, ⟨some 37, none, .move (.tmp 1), []⟩, ⟨some 38, none, .move (.tmp 2), []⟩, ⟨some 39, none, .call 27 #[.tmp 36, .tmp 37, .tmp 38], []⟩, ⟨some 13, none, .move (.tmp 39), []⟩]]) 
 (.seq 
 (.seq (.ops [.grp none [⟨some 40, none, .move (.tmp 13), []⟩, ⟨some 41, none, .bin .neq 27 (.tmp 40) (.const (.int .i64 0)), []⟩]]) 
 (.cond (.tmp 41) 
 (.seq (.ops [.grp none [⟨some 42, none, .move (.tmp 13), []⟩, ⟨some 43, none, .bin .neq 27 (.tmp 42) (.const (.int .i64 7)), []⟩, ⟨some 44, none, .move (.tmp 43), []⟩],
  .grp (some (some 44, false)) [⟨some 45, none, .move (.tmp 12), []⟩, ⟨some 46, none, .bin .eql 27 (.tmp 45) (.const (.int .i64 0)), []⟩],
  .grp none [⟨some 47, none, .pick (.tmp 44) (.const (.bool true)) (.tmp 46), []⟩, ⟨some 6, none, .move (.tmp 47), []⟩]]) .ret) .skip)) 
 (.seq (.ops [.grp none [⟨some 49, none, .move (.tmp 7), []⟩, ⟨some 50, none, .move (.tmp 10), []⟩, ⟨some 51, none, .move (.tmp 11), []⟩, ⟨some 52, none, .call 25 #[.tmp 49, .tmp 50, .tmp 51], []⟩, ⟨some 48, none, .move (.tmp 52), []⟩, ⟨some 53, none, .extract (.tmp 48) 0, []⟩, ⟨some 54, none, .extract (.tmp 48) 1, []⟩, ⟨some 14, none, .move (.tmp 53), []⟩, ⟨some 15, none, .move (.tmp 54), []⟩]]) 
 (.seq 
 (.seq (.ops [.grp none [⟨some 55, none, .move (.tmp 12), []⟩, ⟨some 56, none, .bin .neq 27 (.tmp 55) (.const (.int .i64 0)), []⟩, ⟨some 57, none, .move (.tmp 56), []⟩],
  .grp (some (some 57, false)) [⟨some 58, none, .move (.tmp 15), []⟩, ⟨some 59, none, .bin .neq 27 (.tmp 58) (.const (.int .i64 0)), []⟩],
  .grp none [⟨some 60, none, .pick (.tmp 57) (.const (.bool true)) (.tmp 59), []⟩, ⟨some 61, none, .move (.tmp 60), []⟩],
  .grp (some (some 61, false)) [⟨some 62, none, .move (.tmp 14), []⟩, ⟨some 63, none, .move (.tmp 2), []⟩, ⟨some 64, none, .bin .neq 3 (.tmp 62) (.tmp 63), []⟩],
  .grp none [⟨some 65, none, .pick (.tmp 61) (.const (.bool true)) (.tmp 64), []⟩, ⟨some 66, none, .move (.tmp 65), []⟩],
  .grp (some (some 66, false)) [⟨some 67, none, .move (.tmp 7), []⟩, ⟨some 68, none, .move (.tmp 2), []⟩, ⟨some 69, none, .move (.tmp 1), []⟩, ⟨some 70, none, .call 27 #[.tmp 67, .tmp 68, .tmp 69], []⟩, ⟨some 71, none, .bin .neq 27 (.tmp 70) (.const (.int .i64 0)), []⟩],
  .grp none [⟨some 72, none, .pick (.tmp 66) (.const (.bool true)) (.tmp 71), []⟩]]) 
 (.cond (.tmp 72) 
 (.seq (.ops [.grp none [⟨some 6, none, .move (.const (.bool false)), []⟩]]) .ret) .skip)) 
 (.seq 
 (.seq (.ops [.grp none [⟨some 16, none, .move (.const (.int .i64 0)), []⟩]]) 
 (.block 0 
 (.loop 
 (.seq 
 (.seq (.ops [.grp none [⟨some 73, none, .move (.tmp 16), []⟩, ⟨some 74, none, .move (.tmp 8), []⟩, ⟨some 75, none, .nonnil (.tmp 74), []⟩, ⟨some 76, none, .faddr 0 (.tmp 75), []⟩, ⟨some 77, none, .load none (.tmp 76), []⟩, ⟨some 78, none, .len (.tmp 77), []⟩, ⟨some 79, none, .bin .lss 3 (.tmp 73) (.tmp 78), []⟩]]) 
 (.cond (.tmp 79) .skip (.exit 0))) 
 (.seq 
 (.block 1 
 (.seq (.ops [.grp none [⟨some 82, none, .move (.tmp 7), []⟩, ⟨some 83, none, .move (.tmp 16), []⟩, ⟨some 84, none, .call 20 #[.tmp 82, .tmp 83], []⟩, ⟨some 85, none, .move (.tmp 8), []⟩, ⟨some 86, none, .move (.tmp 16), []⟩, ⟨some 87, none, .call 29 #[.tmp 85, .tmp 86], []⟩, ⟨some 88, none, .call 28 #[.tmp 84, .tmp 87], []⟩, ⟨some 89, none, .un .not (.tmp 88), []⟩]]) 
 (.cond (.tmp 89) 
 (.seq (.ops [.grp none [⟨some 6, none, .move (.const (.bool false)), []⟩]]) .ret) .skip))) (.ops [.grp none [⟨some 80, none, .move (.tmp 16), []⟩, ⟨some 81, none, .bin .add 3 (.tmp 80) (.const (.int .i64 1)), []⟩, ⟨some 16, none, .move (.tmp 81), []⟩]])))))) 
 (.seq (.ops [.grp none [⟨some 6, none, .move (.const (.bool true)), []⟩]]) .ret)))))))))⟩
theorem low6 : lowG Try.prog 6 = some g6 := by kernel_rfl

def g22 : GFn :=
 ⟨33, [⟨2, none⟩, ⟨3, none⟩, ⟨4, none⟩], .seq (.ops [.grp none [⟨some 2, none, .move (.const (.pointer none)), []⟩, ⟨some 3, none, .move (.const (.pointer none)), []⟩, ⟨some 4, none, .move (.const (.bool false)), []⟩]]) 
 (.seq (.ops [.grp none [⟨some 8, none, .call 14 #[], []⟩, ⟨some 9, none, .build #[(0, 1), (1, 1)] #[.slice none 0 0, .slice none 0 0] [], []⟩, ⟨some 10, none, .box 40 (.tmp 9), []⟩, ⟨some 5, none, .move (.tmp 8), []⟩, ⟨some 6, none, .move (.tmp 10), []⟩]]) 
 (.seq 
 (.seq (.ops [.grp none [⟨some 11, none, .move (.tmp 5), []⟩, ⟨some 12, none, .bin .eql 23 (.tmp 11) (.const (.pointer none)), []⟩]]) 
 (.cond (.tmp 12) 
 (.seq (.ops [.grp none [⟨some 2, none, .move (.const (.pointer none)), []⟩, ⟨some 3, none, .move (.const (.pointer none)), []⟩, ⟨some 4, none, .move (.const (.bool false)), []⟩]]) .ret) .skip)) 
 (.seq 
 (.seq (.ops [.grp none [⟨some 7, none, .move (.const (.int .i64 0)), []⟩]]) 
 (.block 0 
 (.loop 
 (.seq 
 (.seq (.ops [.grp none [⟨some 13, none, .move (.tmp 7), []⟩, ⟨some 14, none, .move (.tmp 0), []⟩, ⟨some 15, none, .len (.tmp 14), []⟩, ⟨some 16, none, .bin .lss 3 (.tmp 13) (.tmp 15), []⟩, ⟨some 17, none, .move (.tmp 16), []⟩],
  .grp (some (some 17, true)) [⟨some 18, none, .move (.tmp 7), []⟩, ⟨some 19, none, .bin .lss 3 (.tmp 18) (.const (.int .i64 60)), []⟩],
  .grp none [⟨some 20, none, .pick (.tmp 17) (.tmp 19) (.const (.bool false)), []⟩]]) 
 (.cond (.tmp 20) .skip (.exit 0))) 
 (.seq 
 (.block 1 
 (.seq (.ops [.grp none [⟨some 23, none, .move (.tmp 5), []⟩, ⟨some 24, none, .move (.tmp 6), []⟩, ⟨some 25, none, .move (.tmp 0), []⟩, ⟨some 26, none, .move (.tmp 7), []⟩, ⟨some 27, none, .iaddr 5 (.tmp 25) (.tmp 26), []⟩, ⟨some 28, none, .load (some 5) (.tmp 27), []⟩, ⟨some 29, none, .call 51 #[.tmp 23, .tmp 24, .tmp 28], []⟩, ⟨some 30, none, .un .not (.tmp 29), []⟩]]) 
 (.cond (.tmp 30) 
 (.seq (.ops [.grp none [⟨some 2, none, .move (.const (.pointer none)), []⟩, ⟨some 3, none, .move (.const (.pointer none)), []⟩, ⟨some 4, none, .move (.const (.bool false)), []⟩]]) .ret) .skip))) (.ops [.grp none [⟨some 21, none, .move (.tmp 7), []⟩, ⟨some 22, none, .bin .add 3 (.tmp 21) (.const (.int .i64 1)), []⟩, ⟨some 7, none, .move (.tmp 22), []⟩]])))))) 
 (.seq (.ops [.grp none [⟨some 31, none, .move (.tmp 5), []⟩, ⟨some 32, none, .move (.tmp 6), []⟩, ⟨some 2, none, .move (.tmp 31), []⟩, ⟨some 3, none, .move (.tmp 32), []⟩, ⟨some 4, none, .move (.const (.bool true)), []⟩]]) .ret))))⟩
theorem low22 : lowG Try.prog 22 = some g22 := by kernel_rfl

def g51 : GFn :=
 ⟨89, [⟨6, none⟩], .seq (.ops [.grp none [⟨some 5, none, .box 51 (.tmp 2), []⟩, ⟨some 6, none, .move (.const (.bool false)), []⟩]]) 
 (.seq 
 (.seq (.ops [.grp none [⟨some 11, none, .faddr 0 (.tmp 5), []⟩, ⟨some 12, none, .load none (.tmp 11), []⟩]]) 
 (.block 0 
 (.seq (.ops [.grp none [⟨some 14, none, .bin .eql 3 (.tmp 12) (.const (.int .i64 0)), []⟩, ⟨some 13, none, .move (.tmp 14), []⟩]]) 
 (.cond (.tmp 13) 
 (.seq (.ops [.grp none [⟨some 15, none, .move (.tmp 0), []⟩, ⟨some 16, none, .call 16 #[.tmp 15], []⟩, ⟨some 17, none, .move (.tmp 1), []⟩, ⟨some 18, none, .call 70 #[.tmp 17], []⟩, ⟨some 19, none, .bin .eql 3 (.tmp 16) (.tmp 18), []⟩, ⟨some 6, none, .move (.tmp 19), []⟩]]) .ret) 
 (.seq (.ops [.grp none [⟨some 21, none, .bin .eql 3 (.tmp 12) (.const (.int .i64 1)), []⟩, ⟨some 20, none, .move (.tmp 21), []⟩]]) 
 (.cond (.tmp 20) 
 (.seq (.ops [.grp none [⟨some 22, none, .move (.tmp 0), []⟩, ⟨some 23, none, .faddr 1 (.tmp 5), []⟩, ⟨some 24, none, .load none (.tmp 23), []⟩, ⟨some 26, none, .move (.tmp 1), []⟩, ⟨some 27, none, .faddr 1 (.tmp 5), []⟩, ⟨some 28, none, .load none (.tmp 27), []⟩, ⟨some 25, none, .call 18 #[.tmp 22, .tmp 24], [⟨some 28, none, .load none (.tmp 27)⟩]⟩, ⟨some 29, none, .call 71 #[.tmp 26, .tmp 28], []⟩, ⟨some 30, none, .bin .eql 27 (.tmp 25) (.tmp 29), []⟩, ⟨some 6, none, .move (.tmp 30), []⟩]]) .ret) 
 (.seq (.ops [.grp none [⟨some 32, none, .bin .eql 3 (.tmp 12) (.const (.int .i64 2)), []⟩, ⟨some 31, none, .move (.tmp 32), []⟩]]) 
 (.cond (.tmp 31) 
 (.seq (.ops [.grp none [⟨some 34, none, .move (.tmp 0), []⟩, ⟨some 35, none, .faddr 1 (.tmp 5), []⟩, ⟨some 36, none, .load none (.tmp 35), []⟩, ⟨some 37, none, .call 19 #[.tmp 34, .tmp 36], []⟩, ⟨some 33, none, .move (.tmp 37), []⟩, ⟨some 38, none, .extract (.tmp 33) 0, []⟩, ⟨some 39, none, .extract (.tmp 33) 1, []⟩, ⟨some 7, none, .move (.tmp 38), []⟩, ⟨some 8, none, .move (.tmp 39), []⟩]]) 
 (.seq (.ops [.grp none [⟨some 41, none, .move (.tmp 1), []⟩, ⟨some 42, none, .faddr 1 (.tmp 5), []⟩, ⟨some 43, none, .load none (.tmp 42), []⟩, ⟨some 44, none, .call 72 #[.tmp 41, .tmp 43], []⟩, ⟨some 40, none, .move (.tmp 44), []⟩, ⟨some 45, none, .extract (.tmp 40) 0, []⟩, ⟨some 46, none, .extract (.tmp 40) 1, []⟩, ⟨some 9, none, .move (.tmp 45), []⟩, ⟨some 10, none, .move (.tmp 46), []⟩]]) 
 (.seq (.ops [.grp none [⟨some 47, none, .move (.tmp 7), []⟩, ⟨some 48, none, .move (.tmp 9), []⟩, ⟨some 49, none, .call 28 #[.tmp 47, .tmp 48], []⟩, ⟨some 50, none, .move (.tmp 49), []⟩],
  .grp (some (some 50, true)) [⟨some 51, none, .move (.tmp 8), []⟩, ⟨some 52, none, .move (.tmp 10), []⟩, ⟨some 53, none, .bin .eql 27 (.tmp 51) (.tmp 52), []⟩],
  .grp none [⟨some 54, none, .pick (.tmp 50) (.tmp 53) (.const (.bool false)), []⟩, ⟨some 6, none, .move (.tmp 54), []⟩]]) .ret))) 
 (.seq 
 (.seq (.ops [.grp none [⟨some 56, none, .bin .eql 3 (.tmp 12) (.const (.int .i64 3)), []⟩, ⟨some 55, none, .move (.tmp 56), []⟩]]) 
 (.cond (.tmp 55) .skip 
 (.seq (.ops [.grp none [⟨some 57, none, .bin .eql 3 (.tmp 12) (.const (.int .i64 4)), []⟩, ⟨some 55, none, .move (.tmp 57), []⟩]]) 
 (.cond (.tmp 55) .skip (.ops [.grp none [⟨some 58, none, .bin .eql 3 (.tmp 12) (.const (.int .i64 5)), []⟩, ⟨some 55, none, .move (.tmp 58), []⟩]]))))) 
 (.cond (.tmp 55) 
 (.seq (.ops [.grp none [⟨some 59, none, .move (.tmp 0), []⟩, ⟨some 60, none, .faddr 1 (.tmp 5), []⟩, ⟨some 61, none, .load none (.tmp 60), []⟩, ⟨some 62, none, .faddr 2 (.tmp 5), []⟩, ⟨some 63, none, .load none (.tmp 62), []⟩, ⟨some 64, none, .faddr 3 (.tmp 5), []⟩, ⟨some 65, none, .load none (.tmp 64), []⟩, ⟨some 67, none, .move (.tmp 1), []⟩, ⟨some 68, none, .faddr 1 (.tmp 5), []⟩, ⟨some 69, none, .load none (.tmp 68), []⟩, ⟨some 70, none, .faddr 2 (.tmp 5), []⟩, ⟨some 71, none, .load none (.tmp 70), []⟩, ⟨some 72, none, .faddr 3 (.tmp 5), []⟩, ⟨some 73, none, .load none (.tmp 72), []⟩, ⟨some 66, none, .call 17 #[.tmp 59, .tmp 61, .tmp 63, .tmp 65], [⟨some 73, none, .load none (.tmp 72)⟩, ⟨some 71, none, .load none (.tmp 70)⟩, ⟨some 69, none, .load none (.tmp 68)⟩]⟩, ⟨some 74, none, .call 73 #[.tmp 67, .tmp 69, .tmp 71, .tmp 73], []⟩, ⟨some 75, none, .bin .eql 27 (.tmp 66) (.tmp 74), []⟩, ⟨some 6, none, .move (.tmp 75), []⟩]]) .ret) .skip)))))))))) 
 (.seq (.ops [.grp none [⟨some 76, none, .move (.tmp 0), []⟩, ⟨some 77, none, .faddr 3 (.tmp 5), []⟩, ⟨some 78, none, .load none (.tmp 77), []⟩, ⟨some 79, none, .faddr 4 (.tmp 5), []⟩, ⟨some 80, none, .load none (.tmp 79), []⟩, ⟨some 82, none, .move (.tmp 1), []⟩, ⟨some 83, none, .faddr 3 (.tmp 5), []⟩, ⟨some 84, none, .load none (.tmp 83), []⟩, ⟨some 85, none, .faddr 4 (.tmp 5), []⟩, ⟨some 86, none, .load none (.tmp 85), []⟩, ⟨some 81, none, .call 27 #[.tmp 76, .tmp 78, .tmp 80], [⟨some 86, none, .load none (.tmp 85)⟩, ⟨some 84, none, .load none (.tmp 83)⟩]⟩, ⟨some 87, none, .call 74 #[.tmp 82, .tmp 84, .tmp 86], []⟩, ⟨some 88, none, .bin .eql 27 (.tmp 81) (.tmp 87), []⟩, ⟨some 6, none, .move (.tmp 88), []⟩]]) .ret))⟩
theorem low51 : lowG Try.prog 51 = some g51 := by kernel_rfl

end Go.Proofs.Ytkplodhjceieeaa
