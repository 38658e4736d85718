/-
  The small words of the functions about the buffer.
-/
import Derived.Test.YtplcocifndpplaaRows
import Derived.Test.YtplcocifndpplaaJj
namespace Go.Proofs.Ytplcocifndpplaa
open Go Go.Ideal

noncomputable def rfA (f : Nat) : Code := (rangeOf Try.prog f).1
noncomputable def rfB (f : Nat) : Code := (rangeOf Try.prog f).2

noncomputable def g16 : GFn :=
 ⟨29, [⟨6, some (some 5)⟩, ⟨7, some none⟩], .seq (.ops [.grp none [⟨some 6, none, .zero 31 #[.int .i64 0, .int .i64 0, .int .i64 0, .int .i64 0, .bool false], []⟩, ⟨some 7, none, .zero 4 #[.bool false], []⟩]]) 
 (.seq 
 (.seq (.ops [.grp none [⟨some 10, none, .move (.tmp 0), []⟩, ⟨some 11, none, .bin .eql 25 (.tmp 10) (.const (.pointer none)), []⟩, ⟨some 12, none, .move (.tmp 11), []⟩],
  .grp (some (some 12, false)) [⟨some 13, none, .move (.tmp 2), []⟩, ⟨some 14, none, .bin .lss 3 (.tmp 13) (.const (.int .i64 0)), []⟩],
  .grp none [⟨some 15, none, .pick (.tmp 12) (.const (.bool true)) (.tmp 14), []⟩, ⟨some 16, none, .move (.tmp 15), []⟩],
  .grp (some (some 16, false)) [⟨some 17, none, .move (.tmp 2), []⟩, ⟨some 18, none, .bin .geq 3 (.tmp 17) (.const (.int .i64 4096)), []⟩],
  .grp none [⟨some 19, none, .pick (.tmp 16) (.const (.bool true)) (.tmp 18), []⟩]]) 
 (.cond (.tmp 19) 
 (.seq (.ops [.grp none [⟨some 20, none, .build #[(0, 1), (1, 1), (2, 1), (3, 1), (4, 1)] #[.int .i64 0, .int .i64 0, .int .i64 0, .int .i64 0, .bool false] [], []⟩, ⟨none, none, .store 5 (.tmp 6) (.tmp 20), []⟩, ⟨none, none, .store 1 (.tmp 7) (.const (.bool false)), []⟩]]) .ret) .skip)) 
 (.seq 
 (.seq (.ops [.grp none [⟨some 21, none, .move (.tmp 0), []⟩, ⟨some 22, none, .move (.tmp 1), []⟩, ⟨some 23, none, .move (.tmp 2), []⟩, ⟨some 24, none, .call 45 #[.tmp 21, .tmp 22, .tmp 23, .const (.int .i64 1)], []⟩]]) 
 (.block 0 (.rangeFunc (.tmp 24) #[25, 26] (rfA 16) (rfB 16)))) 
 (.seq (.ops [.grp none [⟨some 28, none, .build #[(0, 1), (1, 1), (2, 1), (3, 1), (4, 1)] #[.int .i64 0, .int .i64 0, .int .i64 0, .int .i64 0, .bool false] [], []⟩, ⟨none, none, .store 5 (.tmp 6) (.tmp 28), []⟩, ⟨none, none, .store 1 (.tmp 7) (.const (.bool false)), []⟩]]) .ret)))⟩
theorem low16 : lowG Try.prog 16 = some g16 := by kernel_rfl

def g17 : GFn :=
 ⟨36, [⟨6, some (some 5)⟩, ⟨7, none⟩], .seq (.ops [.grp none [⟨some 6, none, .zero 31 #[.int .i64 0, .int .i64 0, .int .i64 0, .int .i64 0, .bool false], []⟩, ⟨some 7, none, .move (.const (.bool false)), []⟩]]) 
 (.seq 
 (.seq (.ops [.grp none [⟨some 8, none, .move (.const (.int .i64 0)), []⟩]]) 
 (.block 0 
 (.loop 
 (.seq 
 (.seq (.ops [.grp none [⟨some 9, none, .move (.tmp 8), []⟩, ⟨some 10, none, .move (.tmp 0), []⟩, ⟨some 11, none, .nonnil (.tmp 10), []⟩, ⟨some 12, none, .faddr 1 (.tmp 11), []⟩, ⟨some 13, none, .load none (.tmp 12), []⟩, ⟨some 14, none, .len (.tmp 13), []⟩, ⟨some 15, none, .bin .lss 3 (.tmp 9) (.tmp 14), []⟩]]) 
 (.cond (.tmp 15) .skip (.exit 0))) 
 (.seq 
 (.block 1 
 (.seq (.ops [.grp none [⟨some 18, none, .move (.tmp 0), []⟩, ⟨some 19, none, .nonnil (.tmp 18), []⟩, ⟨some 20, none, .faddr 1 (.tmp 19), []⟩, ⟨some 21, none, .load none (.tmp 20), []⟩, ⟨some 22, none, .move (.tmp 8), []⟩, ⟨some 23, none, .iaddr 5 (.tmp 21) (.tmp 22), []⟩, ⟨some 24, none, .load (some 5) (.tmp 23), []⟩, ⟨some 25, none, .move (.tmp 1), []⟩, ⟨some 26, none, .move (.tmp 2), []⟩, ⟨some 27, none, .call 20 #[.tmp 24, .tmp 25, .tmp 26], []⟩]]) 
 (.cond (.tmp 27) 
 (.seq (.ops [.grp none [⟨some 28, none, .move (.tmp 0), []⟩, ⟨some 29, none, .nonnil (.tmp 28), []⟩, ⟨some 30, none, .faddr 1 (.tmp 29), []⟩, ⟨some 31, none, .load none (.tmp 30), []⟩, ⟨some 32, none, .move (.tmp 8), []⟩, ⟨some 33, none, .iaddr 5 (.tmp 31) (.tmp 32), []⟩, ⟨some 34, none, .load (some 5) (.tmp 33), []⟩, ⟨none, none, .store 5 (.tmp 6) (.tmp 34), []⟩, ⟨some 7, none, .move (.const (.bool true)), []⟩]]) .ret) .skip))) (.ops [.grp none [⟨some 16, none, .move (.tmp 8), []⟩, ⟨some 17, none, .bin .add 3 (.tmp 16) (.const (.int .i64 1)), []⟩, ⟨some 8, none, .move (.tmp 17), []⟩]])))))) 
 (.seq (.ops [.grp none [⟨some 35, none, .build #[(0, 1), (1, 1), (2, 1), (3, 1), (4, 1)] #[.int .i64 0, .int .i64 0, .int .i64 0, .int .i64 0, .bool false] [], []⟩, ⟨none, none, .store 5 (.tmp 6) (.tmp 35), []⟩, ⟨some 7, none, .move (.const (.bool false)), []⟩]]) .ret))⟩
theorem low17 : lowG Try.prog 17 = some g17 := by kernel_rfl

def g18 : GFn :=
 ⟨26, [⟨4, none⟩], .seq (.ops [.grp none [⟨some 4, none, .move (.const (.bool false)), []⟩]]) 
 (.seq 
 (.seq (.ops [.grp none [⟨some 6, none, .move (.tmp 0), []⟩, ⟨some 7, none, .len (.tmp 6), []⟩, ⟨some 8, none, .move (.tmp 1), []⟩, ⟨some 9, none, .len (.tmp 8), []⟩, ⟨some 10, none, .bin .neq 3 (.tmp 7) (.tmp 9), []⟩]]) 
 (.cond (.tmp 10) 
 (.seq (.ops [.grp none [⟨some 4, none, .move (.const (.bool false)), []⟩]]) .ret) .skip)) 
 (.seq 
 (.seq (.ops [.grp none [⟨some 5, none, .move (.const (.int .i64 0)), []⟩]]) 
 (.block 0 
 (.loop 
 (.seq 
 (.seq (.ops [.grp none [⟨some 11, none, .move (.tmp 5), []⟩, ⟨some 12, none, .move (.tmp 0), []⟩, ⟨some 13, none, .len (.tmp 12), []⟩, ⟨some 14, none, .bin .lss 3 (.tmp 11) (.tmp 13), []⟩]]) 
 (.cond (.tmp 14) .skip (.exit 0))) 
 (.seq 
 (.block 1 
 (.seq (.ops [.grp none [⟨some 17, none, .move (.tmp 0), []⟩, ⟨some 18, none, .move (.tmp 5), []⟩, ⟨some 19, none, .iaddr 5 (.tmp 17) (.tmp 18), []⟩, ⟨some 20, none, .load (some 5) (.tmp 19), []⟩, ⟨some 21, none, .move (.tmp 1), []⟩, ⟨some 22, none, .move (.tmp 5), []⟩, ⟨some 23, none, .iaddr 5 (.tmp 21) (.tmp 22), []⟩, ⟨some 24, none, .load (some 5) (.tmp 23), []⟩, ⟨some 25, none, .bin .neq 31 (.tmp 20) (.tmp 24), []⟩]]) 
 (.cond (.tmp 25) 
 (.seq (.ops [.grp none [⟨some 4, none, .move (.const (.bool false)), []⟩]]) .ret) .skip))) (.ops [.grp none [⟨some 15, none, .move (.tmp 5), []⟩, ⟨some 16, none, .bin .add 3 (.tmp 15) (.const (.int .i64 1)), []⟩, ⟨some 5, none, .move (.tmp 16), []⟩]])))))) 
 (.seq (.ops [.grp none [⟨some 4, none, .move (.const (.bool true)), []⟩]]) .ret)))⟩
theorem low18 : lowG Try.prog 18 = some g18 := by kernel_rfl

def g19 : GFn :=
 ⟨11, [⟨2, none⟩], .seq (.ops [.grp none [⟨some 2, none, .move (.const (.slice none 0 0)), []⟩]]) 
 (.seq 
 (.seq (.ops [.grp none [⟨some 3, none, .move (.tmp 0), []⟩, ⟨some 4, none, .bin .eql 25 (.tmp 3) (.const (.pointer none)), []⟩]]) 
 (.cond (.tmp 4) 
 (.seq (.ops [.grp none [⟨some 2, none, .move (.const (.slice none 0 0)), []⟩]]) .ret) .skip)) 
 (.seq (.ops [.grp none [⟨some 5, none, .row 31 5 0 #[] [], []⟩, ⟨some 6, none, .move (.tmp 0), []⟩, ⟨some 7, none, .nonnil (.tmp 6), []⟩, ⟨some 8, none, .faddr 1 (.tmp 7), []⟩, ⟨some 9, none, .load none (.tmp 8), []⟩, ⟨some 10, none, .append 31 5 40 (.tmp 5) (.tmp 9), []⟩, ⟨some 2, none, .move (.tmp 10), []⟩]]) .ret))⟩
theorem low19 : lowG Try.prog 19 = some g19 := by kernel_rfl

def g20 : GFn :=
 ⟨27, [⟨6, none⟩], .seq (.ops [.grp none [⟨some 3, none, .box 31 (.tmp 0), []⟩, ⟨some 6, none, .move (.const (.bool false)), []⟩]]) 
 (.seq (.ops [.grp none [⟨some 7, none, .faddr 0 (.tmp 3), []⟩, ⟨some 8, none, .load none (.tmp 7), []⟩, ⟨some 9, none, .move (.tmp 1), []⟩, ⟨some 10, none, .bin .eql 3 (.tmp 8) (.tmp 9), []⟩, ⟨some 11, none, .move (.tmp 10), []⟩],
  .grp (some (some 11, true)) [⟨some 12, none, .move (.tmp 2), []⟩, ⟨some 13, none, .faddr 1 (.tmp 3), []⟩, ⟨some 14, none, .load none (.tmp 13), []⟩, ⟨some 15, none, .bin .geq 3 (.tmp 12) (.tmp 14), []⟩],
  .grp none [⟨some 16, none, .pick (.tmp 11) (.tmp 15) (.const (.bool false)), []⟩, ⟨some 17, none, .move (.tmp 16), []⟩],
  .grp (some (some 17, true)) [⟨some 18, none, .move (.tmp 2), []⟩, ⟨some 19, none, .faddr 1 (.tmp 3), []⟩, ⟨some 20, none, .load none (.tmp 19), []⟩, ⟨some 21, none, .faddr 2 (.tmp 3), []⟩, ⟨some 22, none, .load none (.tmp 21), []⟩, ⟨some 23, none, .call 46 #[.tmp 22], [⟨some 20, none, .load none (.tmp 19)⟩]⟩, ⟨some 24, none, .bin .add 3 (.tmp 20) (.tmp 23), []⟩, ⟨some 25, none, .bin .lss 3 (.tmp 18) (.tmp 24), []⟩],
  .grp none [⟨some 26, none, .pick (.tmp 17) (.tmp 25) (.const (.bool false)), []⟩, ⟨some 6, none, .move (.tmp 26), []⟩]]) .ret)⟩
theorem low20 : lowG Try.prog 20 = some g20 := by kernel_rfl

def g21 : GFn :=
 ⟨57, [⟨2, none⟩], .seq (.ops [.grp none [⟨some 1, none, .box 31 (.tmp 0), []⟩, ⟨some 2, none, .move (.const (.bool false)), []⟩]]) 
 (.seq 
 (.seq (.ops [.grp none [⟨some 4, none, .faddr 2 (.tmp 1), []⟩, ⟨some 5, none, .load none (.tmp 4), []⟩, ⟨some 6, none, .bin .neq 3 (.tmp 5) (.const (.int .i64 0)), []⟩, ⟨some 7, none, .move (.tmp 6), []⟩],
  .grp (some (some 7, true)) [⟨some 8, none, .faddr 2 (.tmp 1), []⟩, ⟨some 9, none, .load none (.tmp 8), []⟩, ⟨some 10, none, .bin .neq 3 (.tmp 9) (.const (.int .i64 3)), []⟩],
  .grp none [⟨some 11, none, .pick (.tmp 7) (.tmp 10) (.const (.bool false)), []⟩, ⟨some 12, none, .move (.tmp 11), []⟩],
  .grp (some (some 12, true)) [⟨some 13, none, .faddr 2 (.tmp 1), []⟩, ⟨some 14, none, .load none (.tmp 13), []⟩, ⟨some 15, none, .bin .neq 3 (.tmp 14) (.const (.int .i64 6)), []⟩],
  .grp none [⟨some 16, none, .pick (.tmp 12) (.tmp 15) (.const (.bool false)), []⟩]]) 
 (.cond (.tmp 16) 
 (.seq (.ops [.grp none [⟨some 2, none, .move (.const (.bool false)), []⟩]]) .ret) .skip)) 
 (.seq (.ops [.grp none [⟨some 17, none, .faddr 2 (.tmp 1), []⟩, ⟨some 18, none, .load none (.tmp 17), []⟩, ⟨some 19, none, .call 46 #[.tmp 18], []⟩, ⟨some 3, none, .move (.tmp 19), []⟩]]) 
 (.seq (.ops [.grp none [⟨some 20, none, .faddr 0 (.tmp 1), []⟩, ⟨some 21, none, .load none (.tmp 20), []⟩, ⟨some 22, none, .bin .geq 3 (.tmp 21) (.const (.int .i64 0)), []⟩, ⟨some 23, none, .move (.tmp 22), []⟩],
  .grp (some (some 23, true)) [⟨some 24, none, .faddr 1 (.tmp 1), []⟩, ⟨some 25, none, .load none (.tmp 24), []⟩, ⟨some 26, none, .bin .geq 3 (.tmp 25) (.const (.int .i64 0)), []⟩],
  .grp none [⟨some 27, none, .pick (.tmp 23) (.tmp 26) (.const (.bool false)), []⟩, ⟨some 28, none, .move (.tmp 27), []⟩],
  .grp (some (some 28, true)) [⟨some 29, none, .faddr 1 (.tmp 1), []⟩, ⟨some 30, none, .load none (.tmp 29), []⟩, ⟨some 31, none, .bin .lss 3 (.tmp 30) (.const (.int .i64 4096)), []⟩],
  .grp none [⟨some 32, none, .pick (.tmp 28) (.tmp 31) (.const (.bool false)), []⟩, ⟨some 33, none, .move (.tmp 32), []⟩],
  .grp (some (some 33, true)) [⟨some 34, none, .faddr 1 (.tmp 1), []⟩, ⟨some 35, none, .load none (.tmp 34), []⟩, ⟨some 36, none, .move (.tmp 3), []⟩, ⟨some 37, none, .bin .rem 3 (.tmp 35) (.tmp 36), []⟩, ⟨some 38, none, .bin .eql 3 (.tmp 37) (.const (.int .i64 0)), []⟩],
  .grp none [⟨some 39, none, .pick (.tmp 33) (.tmp 38) (.const (.bool false)), []⟩, ⟨some 40, none, .move (.tmp 39), []⟩],
  .grp (some (some 40, true)) [⟨some 41, none, .faddr 3 (.tmp 1), []⟩, ⟨some 42, none, .load none (.tmp 41), []⟩, ⟨some 43, none, .bin .geq 3 (.tmp 42) (.const (.int .i64 0)), []⟩],
  .grp none [⟨some 44, none, .pick (.tmp 40) (.tmp 43) (.const (.bool false)), []⟩, ⟨some 45, none, .move (.tmp 44), []⟩],
  .grp (some (some 45, true)) [⟨some 46, none, .faddr 3 (.tmp 1), []⟩, ⟨some 47, none, .load none (.tmp 46), []⟩, ⟨some 48, none, .bin .lss 3 (.tmp 47) (.const (.int .i64 1048576)), []⟩],
  .grp none [⟨some 49, none, .pick (.tmp 45) (.tmp 48) (.const (.bool false)), []⟩, ⟨some 50, none, .move (.tmp 49), []⟩],
  .grp (some (some 50, true)) [⟨some 51, none, .faddr 3 (.tmp 1), []⟩, ⟨some 52, none, .load none (.tmp 51), []⟩, ⟨some 53, none, .move (.tmp 3), []⟩, ⟨some 54, none, .bin .rem 3 (.tmp 52) (.tmp 53), []⟩, ⟨some 55, none, .bin .eql 3 (.tmp 54) (.const (.int .i64 0)), []⟩],
  .grp none [⟨some 56, none, .pick (.tmp 50) (.tmp 55) (.const (.bool false)), []⟩, ⟨some 2, none, .move (.tmp 56), []⟩]]) .ret)))⟩
theorem low21 : lowG Try.prog 21 = some g21 := by kernel_rfl

def g22 : GFn :=
 ⟨28, [⟨8, none⟩], .seq (.ops [.grp none [⟨some 8, none, .move (.const (.int .i64 0)), []⟩]]) 
 (.seq 
 (.seq (.ops [.grp none [⟨some 9, none, .move (.tmp 0), []⟩, ⟨some 10, none, .bin .eql 25 (.tmp 9) (.const (.pointer none)), []⟩, ⟨some 11, none, .move (.tmp 10), []⟩],
  .grp (some (some 11, false)) [⟨some 12, none, .move (.tmp 3), []⟩, ⟨some 13, none, .bin .lss 3 (.tmp 12) (.const (.int .i64 1)), []⟩],
  .grp none [⟨some 14, none, .pick (.tmp 11) (.const (.bool true)) (.tmp 13), []⟩]]) 
 (.cond (.tmp 14) 
 (.seq (.ops [.grp none [⟨some 8, none, .move (.const (.int .i64 0)), []⟩]]) .ret) .skip)) 
 (.seq 
 (.seq (.ops [.grp none [⟨some 15, none, .move (.tmp 2), []⟩, ⟨some 16, none, .bin .lss 3 (.tmp 15) (.const (.int .i64 0)), []⟩]]) 
 (.cond (.tmp 16) (.ops [.grp none [⟨some 17, none, .move (.tmp 3), []⟩, ⟨some 18, none, .move (.tmp 2), []⟩, ⟨some 19, none, .bin .add 3 (.tmp 17) (.tmp 18), []⟩, ⟨some 20, none, .imax (.tmp 19) (.const (.int .i64 0)), []⟩, ⟨some 3, none, .move (.tmp 20), []⟩, ⟨some 2, none, .move (.const (.int .i64 0)), []⟩]]) .skip)) 
 (.seq 
 (.seq (.ops [.grp none [⟨some 21, none, .move (.tmp 3), []⟩, ⟨some 22, none, .bin .lss 3 (.tmp 21) (.const (.int .i64 1)), []⟩]]) 
 (.cond (.tmp 22) 
 (.seq (.ops [.grp none [⟨some 8, none, .move (.const (.int .i64 0)), []⟩]]) .ret) .skip)) 
 (.seq (.ops [.grp none [⟨some 23, none, .move (.tmp 0), []⟩, ⟨some 24, none, .move (.tmp 1), []⟩, ⟨some 25, none, .move (.tmp 2), []⟩, ⟨some 26, none, .move (.tmp 3), []⟩, ⟨some 27, none, .call 47 #[.tmp 23, .tmp 24, .tmp 25, .tmp 26], []⟩, ⟨some 8, none, .move (.tmp 27), []⟩]]) .ret))))⟩
theorem low22 : lowG Try.prog 22 = some g22 := by kernel_rfl

def g23 : GFn :=
 ⟨58, [⟨8, none⟩], .seq (.ops [.grp none [⟨some 8, none, .move (.const (.int .i64 0)), []⟩]]) 
 (.seq 
 (.seq (.ops [.grp none [⟨some 12, none, .move (.tmp 3), []⟩, ⟨some 13, none, .bin .lss 3 (.tmp 12) (.const (.int .i64 1)), []⟩]]) 
 (.cond (.tmp 13) 
 (.seq (.ops [.grp none [⟨some 8, none, .move (.const (.int .i64 0)), []⟩]]) .ret) .skip)) 
 (.seq (.ops [.grp none [⟨some 9, none, .move (.const (.slice none 0 0)), []⟩]]) 
 (.seq 
 (.seq (.ops [.grp none [⟨some 10, none, .move (.const (.int .i64 0)), []⟩]]) 
 (.block 0 
 (.loop 
 (.seq 
 (.seq (.ops [.grp none [⟨some 14, none, .move (.tmp 10), []⟩, ⟨some 15, none, .move (.tmp 0), []⟩, ⟨some 16, none, .nonnil (.tmp 15), []⟩, ⟨some 17, none, .faddr 1 (.tmp 16), []⟩, ⟨some 18, none, .load none (.tmp 17), []⟩, ⟨some 19, none, .len (.tmp 18), []⟩, ⟨some 20, none, .bin .lss 3 (.tmp 14) (.tmp 19), []⟩]]) 
 (.cond (.tmp 20) .skip (.exit 0))) 
 (.seq 
 (.block 1 
 (.seq (.ops [.grp none [⟨some 23, none, .move (.tmp 0), []⟩, ⟨some 24, none, .nonnil (.tmp 23), []⟩, ⟨some 25, none, .faddr 1 (.tmp 24), []⟩, ⟨some 26, none, .load none (.tmp 25), []⟩, ⟨some 27, none, .move (.tmp 10), []⟩, ⟨some 28, none, .iaddr 5 (.tmp 26) (.tmp 27), []⟩, ⟨some 29, none, .load (some 5) (.tmp 28), []⟩, ⟨some 30, none, .move (.tmp 1), []⟩, ⟨some 31, none, .move (.tmp 2), []⟩, ⟨some 32, none, .move (.tmp 3), []⟩, ⟨some 33, none, .call 48 #[.tmp 29, .tmp 30, .tmp 31, .tmp 32], []⟩, ⟨some 34, none, .un .not (.tmp 33), []⟩]]) 
 (.cond (.tmp 34) (.ops [.grp none [⟨some 35, none, .move (.tmp 9), []⟩, ⟨some 36, none, .move (.tmp 0), []⟩, ⟨some 37, none, .nonnil (.tmp 36), []⟩, ⟨some 38, none, .faddr 1 (.tmp 37), []⟩, ⟨some 39, none, .load none (.tmp 38), []⟩, ⟨some 40, none, .move (.tmp 10), []⟩, ⟨some 41, none, .iaddr 5 (.tmp 39) (.tmp 40), []⟩, ⟨some 42, none, .load (some 5) (.tmp 41), []⟩, ⟨some 43, none, .row 31 5 1 #[.int .i64 0, .int .i64 0, .int .i64 0, .int .i64 0, .bool false] [(0, .tmp 42)], []⟩, ⟨some 44, none, .append 31 5 40 (.tmp 35) (.tmp 43), []⟩, ⟨some 9, none, .move (.tmp 44), []⟩]]) .skip))) (.ops [.grp none [⟨some 21, none, .move (.tmp 10), []⟩, ⟨some 22, none, .bin .add 3 (.tmp 21) (.const (.int .i64 1)), []⟩, ⟨some 10, none, .move (.tmp 22), []⟩]])))))) 
 (.seq (.ops [.grp none [⟨some 45, none, .move (.tmp 0), []⟩, ⟨some 46, none, .nonnil (.tmp 45), []⟩, ⟨some 47, none, .faddr 1 (.tmp 46), []⟩, ⟨some 48, none, .load none (.tmp 47), []⟩, ⟨some 49, none, .len (.tmp 48), []⟩, ⟨some 50, none, .move (.tmp 9), []⟩, ⟨some 51, none, .len (.tmp 50), []⟩, ⟨some 52, none, .bin .sub 3 (.tmp 49) (.tmp 51), []⟩, ⟨some 11, none, .move (.tmp 52), []⟩]]) 
 (.seq (.ops [.grp none [⟨some 53, none, .move (.tmp 0), []⟩, ⟨some 54, none, .move (.tmp 9), []⟩, ⟨some 55, none, .nonnil (.tmp 53), []⟩, ⟨some 56, none, .faddr 1 (.tmp 55), []⟩, ⟨none, none, .store 1 (.tmp 56) (.tmp 54), []⟩]]) 
 (.seq (.ops [.grp none [⟨some 57, none, .move (.tmp 11), []⟩, ⟨some 8, none, .move (.tmp 57), []⟩]]) .ret))))))⟩
theorem low23 : lowG Try.prog 23 = some g23 := by kernel_rfl

def g24 : GFn :=
 ⟨60, [⟨4, none⟩], .seq (.ops [.grp none [⟨some 3, none, .box 31 (.tmp 1), []⟩, ⟨some 4, none, .move (.const (.int .i64 0)), []⟩]]) 
 (.seq 
 (.block 0 
 (.seq (.ops [.grp none [⟨some 6, none, .move (.tmp 0), []⟩, ⟨some 7, none, .bin .eql 25 (.tmp 6) (.const (.pointer none)), []⟩, ⟨some 5, none, .move (.tmp 7), []⟩]]) 
 (.cond (.tmp 5) 
 (.seq (.ops [.grp none [⟨some 4, none, .move (.const (.int .i64 1)), []⟩]]) .ret) 
 (.seq (.ops [.grp none [⟨some 9, none, .load (some 5) (.tmp 3), []⟩, ⟨some 10, none, .call 49 #[.tmp 9], []⟩, ⟨some 11, none, .un .not (.tmp 10), []⟩, ⟨some 8, none, .move (.tmp 11), []⟩]]) 
 (.cond (.tmp 8) 
 (.seq (.ops [.grp none [⟨some 4, none, .move (.const (.int .i64 2)), []⟩]]) .ret) .skip))))) 
 (.seq (.ops [.grp none [⟨some 12, none, .move (.tmp 0), []⟩, ⟨some 13, none, .faddr 0 (.tmp 3), []⟩, ⟨some 14, none, .load none (.tmp 13), []⟩, ⟨some 15, none, .faddr 1 (.tmp 3), []⟩, ⟨some 16, none, .load none (.tmp 15), []⟩, ⟨some 17, none, .faddr 2 (.tmp 3), []⟩, ⟨some 18, none, .load none (.tmp 17), []⟩, ⟨some 19, none, .bin .shl 3 (.const (.int .i64 1)) (.tmp 18), []⟩, ⟨some 20, none, .call 47 #[.tmp 12, .tmp 14, .tmp 16, .tmp 19], []⟩]]) 
 (.seq 
 (.seq (.ops [.grp none [⟨some 21, none, .move (.tmp 0), []⟩, ⟨some 22, none, .nonnil (.tmp 21), []⟩, ⟨some 23, none, .faddr 1 (.tmp 22), []⟩, ⟨some 24, none, .load none (.tmp 23), []⟩, ⟨some 25, none, .len (.tmp 24), []⟩, ⟨some 26, none, .move (.tmp 0), []⟩, ⟨some 27, none, .nonnil (.tmp 26), []⟩, ⟨some 28, none, .faddr 0 (.tmp 27), []⟩, ⟨some 29, none, .load none (.tmp 28), []⟩, ⟨some 30, none, .bin .eql 3 (.tmp 25) (.tmp 29), []⟩]]) 
 (.cond (.tmp 30) (.ops [.grp none [⟨some 31, none, .move (.tmp 0), []⟩, ⟨some 32, none, .move (.tmp 0), []⟩, ⟨some 33, none, .nonnil (.tmp 32), []⟩, ⟨some 34, none, .faddr 1 (.tmp 33), []⟩, ⟨some 35, none, .load none (.tmp 34), []⟩, ⟨some 36, none, .slice 31 5 (.tmp 35) (some (.const (.int .i64 1))) none none, []⟩, ⟨some 37, none, .nonnil (.tmp 31), []⟩, ⟨some 38, none, .faddr 1 (.tmp 37), []⟩, ⟨none, none, .store 1 (.tmp 38) (.tmp 36), []⟩]]) .skip)) 
 (.seq (.ops [.grp none [⟨some 39, none, .move (.tmp 0), []⟩, ⟨some 40, none, .move (.tmp 0), []⟩, ⟨some 41, none, .nonnil (.tmp 40), []⟩, ⟨some 42, none, .faddr 1 (.tmp 41), []⟩, ⟨some 43, none, .load none (.tmp 42), []⟩, ⟨some 44, none, .move (.tmp 0), []⟩, ⟨some 45, none, .nonnil (.tmp 44), []⟩, ⟨some 46, none, .faddr 1 (.tmp 45), []⟩, ⟨some 47, none, .load none (.tmp 46), []⟩, ⟨some 48, none, .len (.tmp 47), []⟩, ⟨some 49, none, .move (.tmp 0), []⟩, ⟨some 50, none, .nonnil (.tmp 49), []⟩, ⟨some 51, none, .faddr 1 (.tmp 50), []⟩, ⟨some 52, none, .load none (.tmp 51), []⟩, ⟨some 53, none, .len (.tmp 52), []⟩, ⟨some 54, none, .slice 31 5 (.tmp 43) none (some (.tmp 48)) (some (.tmp 53)), []⟩, ⟨some 55, none, .load (some 5) (.tmp 3), []⟩, ⟨some 56, none, .row 31 5 1 #[.int .i64 0, .int .i64 0, .int .i64 0, .int .i64 0, .bool false] [(0, .tmp 55)], [⟨some 54, none, .slice 31 5 (.tmp 43) none (some (.tmp 48)) (some (.tmp 53))⟩, ⟨some 53, none, .len (.tmp 52)⟩, ⟨some 52, none, .load none (.tmp 51)⟩, ⟨some 48, none, .len (.tmp 47)⟩, ⟨some 47, none, .load none (.tmp 46)⟩, ⟨some 43, none, .load none (.tmp 42)⟩]⟩, ⟨some 57, none, .append 31 5 40 (.tmp 54) (.tmp 56), []⟩, ⟨some 58, none, .nonnil (.tmp 39), []⟩, ⟨some 59, none, .faddr 1 (.tmp 58), []⟩, ⟨none, none, .store 1 (.tmp 59) (.tmp 57), []⟩]]) 
 (.seq (.ops [.grp none [⟨some 4, none, .move (.const (.int .i64 0)), []⟩]]) .ret)))))⟩
theorem low24 : lowG Try.prog 24 = some g24 := by kernel_rfl

def g25 : GFn :=
 ⟨39, [⟨4, none⟩], .seq (.ops [.grp none [⟨some 4, none, .move (.const (.int .i64 0)), []⟩]]) 
 (.seq 
 (.block 0 
 (.seq (.ops [.grp none [⟨some 6, none, .move (.tmp 0), []⟩, ⟨some 7, none, .bin .eql 25 (.tmp 6) (.const (.pointer none)), []⟩, ⟨some 5, none, .move (.tmp 7), []⟩]]) 
 (.cond (.tmp 5) 
 (.seq (.ops [.grp none [⟨some 4, none, .move (.const (.int .i64 1)), []⟩]]) .ret) 
 (.seq (.ops [.grp none [⟨some 9, none, .move (.tmp 1), []⟩, ⟨some 10, none, .bin .lss 3 (.tmp 9) (.const (.int .i64 0)), []⟩, ⟨some 11, none, .move (.tmp 10), []⟩],
  .grp (some (some 11, false)) [⟨some 12, none, .move (.tmp 1), []⟩, ⟨some 13, none, .move (.tmp 0), []⟩, ⟨some 14, none, .nonnil (.tmp 13), []⟩, ⟨some 15, none, .faddr 1 (.tmp 14), []⟩, ⟨some 16, none, .load none (.tmp 15), []⟩, ⟨some 17, none, .len (.tmp 16), []⟩, ⟨some 18, none, .bin .geq 3 (.tmp 12) (.tmp 17), []⟩],
  .grp none [⟨some 19, none, .pick (.tmp 11) (.const (.bool true)) (.tmp 18), []⟩, ⟨some 8, none, .move (.tmp 19), []⟩]]) 
 (.cond (.tmp 8) 
 (.seq (.ops [.grp none [⟨some 4, none, .move (.const (.int .i64 3)), []⟩]]) .ret) .skip))))) 
 (.seq (.ops [.grp none [⟨some 20, none, .move (.tmp 0), []⟩, ⟨some 22, none, .move (.tmp 0), []⟩, ⟨some 23, none, .nonnil (.tmp 22), []⟩, ⟨some 24, none, .faddr 1 (.tmp 23), []⟩, ⟨some 25, none, .load none (.tmp 24), []⟩, ⟨some 26, none, .move (.tmp 1), []⟩, ⟨some 27, none, .slice 31 5 (.tmp 25) none (some (.tmp 26)) none, []⟩, ⟨some 29, none, .move (.tmp 0), []⟩, ⟨some 30, none, .nonnil (.tmp 29), []⟩, ⟨some 31, none, .faddr 1 (.tmp 30), []⟩, ⟨some 32, none, .load none (.tmp 31), []⟩, ⟨some 33, none, .move (.tmp 1), []⟩, ⟨some 34, none, .bin .add 3 (.tmp 33) (.const (.int .i64 1)), []⟩, ⟨some 35, none, .slice 31 5 (.tmp 32) (some (.tmp 34)) none none, []⟩, ⟨some 21, none, .row 31 5 0 #[] [], [⟨some 35, none, .slice 31 5 (.tmp 32) (some (.tmp 34)) none none⟩, ⟨some 32, none, .load none (.tmp 31)⟩, ⟨some 27, none, .slice 31 5 (.tmp 25) none (some (.tmp 26)) none⟩, ⟨some 25, none, .load none (.tmp 24)⟩]⟩, ⟨some 28, none, .append 31 5 40 (.tmp 21) (.tmp 27), [⟨some 35, none, .slice 31 5 (.tmp 32) (some (.tmp 34)) none none⟩, ⟨some 32, none, .load none (.tmp 31)⟩]⟩, ⟨some 36, none, .append 31 5 40 (.tmp 28) (.tmp 35), []⟩, ⟨some 37, none, .nonnil (.tmp 20), []⟩, ⟨some 38, none, .faddr 1 (.tmp 37), []⟩, ⟨none, none, .store 1 (.tmp 38) (.tmp 36), []⟩]]) 
 (.seq (.ops [.grp none [⟨some 4, none, .move (.const (.int .i64 0)), []⟩]]) .ret)))⟩
theorem low25 : lowG Try.prog 25 = some g25 := by kernel_rfl

def g26 : GFn :=
 ⟨8, [⟨4, none⟩], .seq (.ops [.grp none [⟨some 4, none, .move (.const (.int .i64 0)), []⟩]]) 
 (.seq (.ops [.grp none [⟨some 5, none, .move (.tmp 0), []⟩, ⟨some 6, none, .move (.tmp 1), []⟩, ⟨some 7, none, .call 22 #[.tmp 5, .tmp 6, .const (.int .i64 0), .const (.int .i64 4096)], []⟩, ⟨some 4, none, .move (.tmp 7), []⟩]]) .ret)⟩
theorem low26 : lowG Try.prog 26 = some g26 := by kernel_rfl

def g43 : GFn :=
 ⟨13, [⟨2, none⟩, ⟨3, none⟩], .seq (.ops [.grp none [⟨some 2, none, .move (.const (.pointer none)), []⟩, ⟨some 3, none, .move (.const (.int .i64 0)), []⟩]]) 
 (.seq 
 (.seq (.ops [.grp none [⟨some 4, none, .move (.tmp 0), []⟩, ⟨some 5, none, .bin .lss 3 (.tmp 4) (.const (.int .i64 1)), []⟩, ⟨some 6, none, .move (.tmp 5), []⟩],
  .grp (some (some 6, false)) [⟨some 7, none, .move (.tmp 0), []⟩, ⟨some 8, none, .bin .gtr 3 (.tmp 7) (.const (.int .i64 64)), []⟩],
  .grp none [⟨some 9, none, .pick (.tmp 6) (.const (.bool true)) (.tmp 8), []⟩]]) 
 (.cond (.tmp 9) 
 (.seq (.ops [.grp none [⟨some 2, none, .move (.const (.pointer none)), []⟩, ⟨some 3, none, .move (.const (.int .i64 2)), []⟩]]) .ret) .skip)) 
 (.seq (.ops [.grp none [⟨some 10, none, .move (.tmp 0), []⟩, ⟨some 11, none, .build #[(0, 1), (1, 1)] #[.int .i64 0, .slice none 0 0] [(0, .tmp 10)], []⟩, ⟨some 12, none, .box 89 (.tmp 11), []⟩, ⟨some 2, none, .move (.tmp 12), []⟩, ⟨some 3, none, .move (.const (.int .i64 0)), []⟩]]) .ret))⟩
theorem low43 : lowG Try.prog 43 = some g43 := by kernel_rfl

def g44 : GFn :=
 ⟨61, [⟨6, none⟩], .seq (.ops [.grp none [⟨some 5, none, .box 44 (.tmp 2), []⟩, ⟨some 6, none, .move (.const (.bool false)), []⟩]]) 
 (.seq 
 (.seq (.ops [.grp none [⟨some 7, none, .faddr 0 (.tmp 5), []⟩, ⟨some 8, none, .load none (.tmp 7), []⟩]]) 
 (.block 0 
 (.seq 
 (.seq (.ops [.grp none [⟨some 10, none, .bin .eql 3 (.tmp 8) (.const (.int .i64 0)), []⟩, ⟨some 9, none, .move (.tmp 10), []⟩]]) 
 (.cond (.tmp 9) .skip 
 (.seq (.ops [.grp none [⟨some 11, none, .bin .eql 3 (.tmp 8) (.const (.int .i64 1)), []⟩, ⟨some 9, none, .move (.tmp 11), []⟩]]) 
 (.cond (.tmp 9) .skip (.ops [.grp none [⟨some 12, none, .bin .eql 3 (.tmp 8) (.const (.int .i64 2)), []⟩, ⟨some 9, none, .move (.tmp 12), []⟩]]))))) 
 (.cond (.tmp 9) 
 (.seq (.ops [.grp none [⟨some 13, none, .move (.tmp 0), []⟩, ⟨some 14, none, .faddr 4 (.tmp 5), []⟩, ⟨some 15, none, .load (some 5) (.tmp 14), []⟩, ⟨some 17, none, .move (.tmp 1), []⟩, ⟨some 18, none, .faddr 4 (.tmp 5), []⟩, ⟨some 19, none, .load (some 5) (.tmp 18), []⟩, ⟨some 16, none, .call 24 #[.tmp 13, .tmp 15], [⟨some 19, none, .load (some 5) (.tmp 18)⟩]⟩, ⟨some 20, none, .call 62 #[.tmp 17, .tmp 19], []⟩, ⟨some 21, none, .bin .eql 47 (.tmp 16) (.tmp 20), []⟩, ⟨some 6, none, .move (.tmp 21), []⟩]]) .ret) 
 (.seq (.ops [.grp none [⟨some 23, none, .bin .eql 3 (.tmp 8) (.const (.int .i64 3)), []⟩, ⟨some 22, none, .move (.tmp 23), []⟩]]) 
 (.cond (.tmp 22) 
 (.seq (.ops [.grp none [⟨some 24, none, .move (.tmp 0), []⟩, ⟨some 25, none, .faddr 1 (.tmp 5), []⟩, ⟨some 26, none, .load none (.tmp 25), []⟩, ⟨some 27, none, .faddr 2 (.tmp 5), []⟩, ⟨some 28, none, .load none (.tmp 27), []⟩, ⟨some 29, none, .faddr 3 (.tmp 5), []⟩, ⟨some 30, none, .load none (.tmp 29), []⟩, ⟨some 32, none, .move (.tmp 1), []⟩, ⟨some 33, none, .faddr 1 (.tmp 5), []⟩, ⟨some 34, none, .load none (.tmp 33), []⟩, ⟨some 35, none, .faddr 2 (.tmp 5), []⟩, ⟨some 36, none, .load none (.tmp 35), []⟩, ⟨some 37, none, .faddr 3 (.tmp 5), []⟩, ⟨some 38, none, .load none (.tmp 37), []⟩, ⟨some 31, none, .call 22 #[.tmp 24, .tmp 26, .tmp 28, .tmp 30], [⟨some 38, none, .load none (.tmp 37)⟩, ⟨some 36, none, .load none (.tmp 35)⟩, ⟨some 34, none, .load none (.tmp 33)⟩]⟩, ⟨some 39, none, .call 23 #[.tmp 32, .tmp 34, .tmp 36, .tmp 38], []⟩, ⟨some 40, none, .bin .eql 3 (.tmp 31) (.tmp 39), []⟩, ⟨some 6, none, .move (.tmp 40), []⟩]]) .ret) 
 (.seq (.ops [.grp none [⟨some 42, none, .bin .eql 3 (.tmp 8) (.const (.int .i64 4)), []⟩, ⟨some 41, none, .move (.tmp 42), []⟩]]) 
 (.cond (.tmp 41) 
 (.seq (.ops [.grp none [⟨some 43, none, .move (.tmp 0), []⟩, ⟨some 44, none, .faddr 1 (.tmp 5), []⟩, ⟨some 45, none, .load none (.tmp 44), []⟩, ⟨some 47, none, .move (.tmp 1), []⟩, ⟨some 48, none, .faddr 1 (.tmp 5), []⟩, ⟨some 49, none, .load none (.tmp 48), []⟩, ⟨some 46, none, .call 26 #[.tmp 43, .tmp 45], [⟨some 49, none, .load none (.tmp 48)⟩]⟩, ⟨some 50, none, .call 23 #[.tmp 47, .tmp 49, .const (.int .i64 0), .const (.int .i64 4096)], []⟩, ⟨some 51, none, .bin .eql 3 (.tmp 46) (.tmp 50), []⟩, ⟨some 6, none, .move (.tmp 51), []⟩]]) .ret) .skip)))))))) 
 (.seq (.ops [.grp none [⟨some 52, none, .move (.tmp 0), []⟩, ⟨some 53, none, .faddr 3 (.tmp 5), []⟩, ⟨some 54, none, .load none (.tmp 53), []⟩, ⟨some 56, none, .move (.tmp 1), []⟩, ⟨some 57, none, .faddr 3 (.tmp 5), []⟩, ⟨some 58, none, .load none (.tmp 57), []⟩, ⟨some 55, none, .call 25 #[.tmp 52, .tmp 54], [⟨some 58, none, .load none (.tmp 57)⟩]⟩, ⟨some 59, none, .call 63 #[.tmp 56, .tmp 58], []⟩, ⟨some 60, none, .bin .eql 47 (.tmp 55) (.tmp 59), []⟩, ⟨some 6, none, .move (.tmp 60), []⟩]]) .ret))⟩
theorem low44 : lowG Try.prog 44 = some g44 := by kernel_rfl

def g45 : GFn :=
 ⟨10, [⟨8, none⟩], .seq (.ops [.grp none [⟨some 4, none, .box 25 (.tmp 0), []⟩, ⟨some 5, none, .box 3 (.tmp 1), []⟩, ⟨some 6, none, .box 3 (.tmp 2), []⟩, ⟨some 7, none, .box 3 (.tmp 3), []⟩, ⟨some 8, none, .move (.const .nilFunc), []⟩]]) 
 (.seq (.ops [.grp none [⟨some 9, none, .fn 64 #[.tmp 4, .tmp 6, .tmp 7, .tmp 5], []⟩, ⟨some 8, none, .move (.tmp 9), []⟩]]) .ret)⟩
theorem low45 : lowG Try.prog 45 = some g45 := by kernel_rfl

def g46 : GFn :=
 ⟨7, [⟨2, none⟩], .seq (.ops [.grp none [⟨some 2, none, .move (.const (.int .i64 0)), []⟩]]) 
 (.seq 
 (.seq (.ops [.grp none [⟨some 3, none, .move (.tmp 0), []⟩, ⟨some 4, none, .bin .eql 3 (.tmp 3) (.const (.int .i64 3)), []⟩]]) 
 (.cond (.tmp 4) 
 (.seq (.ops [.grp none [⟨some 2, none, .move (.const (.int .i64 8)), []⟩]]) .ret) .skip)) 
 (.seq 
 (.seq (.ops [.grp none [⟨some 5, none, .move (.tmp 0), []⟩, ⟨some 6, none, .bin .eql 3 (.tmp 5) (.const (.int .i64 6)), []⟩]]) 
 (.cond (.tmp 6) 
 (.seq (.ops [.grp none [⟨some 2, none, .move (.const (.int .i64 64)), []⟩]]) .ret) .skip)) 
 (.seq (.ops [.grp none [⟨some 2, none, .move (.const (.int .i64 1)), []⟩]]) .ret)))⟩
theorem low46 : lowG Try.prog 46 = some g46 := by kernel_rfl

noncomputable def g47 : GFn :=
 ⟨49, [⟨8, none⟩], .seq (.ops [.grp none [⟨some 8, none, .move (.const (.int .i64 0)), []⟩]]) 
 (.seq (.ops [.grp none [⟨some 14, none, .makeMap, []⟩, ⟨some 9, none, .zero 96 #[.map none], []⟩, ⟨none, none, .store 1 (.tmp 9) (.tmp 14), []⟩]]) 
 (.seq 
 (.seq (.ops [.grp none [⟨some 15, none, .move (.tmp 0), []⟩, ⟨some 16, none, .move (.tmp 1), []⟩, ⟨some 17, none, .move (.tmp 2), []⟩, ⟨some 18, none, .move (.tmp 3), []⟩, ⟨some 19, none, .call 45 #[.tmp 15, .tmp 16, .tmp 17, .tmp 18], []⟩]]) 
 (.block 0 (.rangeFunc (.tmp 19) #[20, 21] (rfA 47) (rfB 47)))) 
 (.seq (.ops [.grp none [⟨some 11, none, .move (.const (.slice none 0 0)), []⟩]]) 
 (.seq 
 (.seq (.ops [.grp none [⟨some 24, none, .move (.tmp 0), []⟩, ⟨some 25, none, .nonnil (.tmp 24), []⟩, ⟨some 26, none, .faddr 1 (.tmp 25), []⟩, ⟨some 27, none, .load none (.tmp 26), []⟩, ⟨some 28, none, .len (.tmp 27), []⟩, ⟨some 29, none, .move (.const (.int .i64 0)), []⟩]]) 
 (.block 2 
 (.loop 
 (.seq (.ops [.grp none [⟨some 30, none, .bin .lss 3 (.tmp 29) (.tmp 28), []⟩]]) 
 (.seq 
 (.cond (.tmp 30) .skip (.exit 2)) 
 (.seq 
 (.block 3 
 (.seq (.ops [.grp none [⟨some 31, none, .move (.tmp 29), []⟩, ⟨some 32, none, .iaddr 5 (.tmp 27) (.tmp 29), []⟩, ⟨some 33, none, .load (some 5) (.tmp 32), []⟩, ⟨some 13, none, .zero 31 #[.int .i64 0, .int .i64 0, .int .i64 0, .int .i64 0, .bool false], []⟩, ⟨some 12, none, .move (.tmp 31), []⟩, ⟨none, none, .store 5 (.tmp 13) (.tmp 33), []⟩]]) 
 (.seq (.ops [.grp none [⟨some 34, none, .load none (.tmp 9), []⟩, ⟨some 35, none, .move (.tmp 12), []⟩, ⟨some 36, none, .lookup .i64 (.int .i64 0) (.tmp 34) (.tmp 35) false, []⟩, ⟨some 37, none, .bin .eql 3 (.tmp 36) (.const (.int .i64 0)), []⟩]]) 
 (.cond (.tmp 37) (.ops [.grp none [⟨some 38, none, .move (.tmp 11), []⟩, ⟨some 39, none, .load (some 5) (.tmp 13), []⟩, ⟨some 40, none, .row 31 5 1 #[.int .i64 0, .int .i64 0, .int .i64 0, .int .i64 0, .bool false] [(0, .tmp 39)], []⟩, ⟨some 41, none, .append 31 5 40 (.tmp 38) (.tmp 40), []⟩, ⟨some 11, none, .move (.tmp 41), []⟩]]) .skip)))) (.ops [.grp none [⟨some 42, none, .bin .add 3 (.tmp 29) (.const (.int .i64 1)), []⟩, ⟨some 29, none, .move (.tmp 42), []⟩]]))))))) 
 (.seq (.ops [.grp none [⟨some 43, none, .move (.tmp 0), []⟩, ⟨some 44, none, .move (.tmp 11), []⟩, ⟨some 45, none, .nonnil (.tmp 43), []⟩, ⟨some 46, none, .faddr 1 (.tmp 45), []⟩, ⟨none, none, .store 1 (.tmp 46) (.tmp 44), []⟩]]) 
 (.seq (.ops [.grp none [⟨some 47, none, .load none (.tmp 9), []⟩, ⟨some 48, none, .lenMap (.tmp 47), []⟩, ⟨some 8, none, .move (.tmp 48), []⟩]]) .ret))))))⟩
theorem low47 : lowG Try.prog 47 = some g47 := by kernel_rfl

def g48 : GFn :=
 ⟨58, [⟨8, none⟩], .seq (.ops [.grp none [⟨some 4, none, .box 31 (.tmp 0), []⟩, ⟨some 8, none, .move (.const (.bool false)), []⟩]]) 
 (.seq 
 (.seq (.ops [.grp none [⟨some 10, none, .faddr 1 (.tmp 4), []⟩, ⟨some 11, none, .load none (.tmp 10), []⟩, ⟨some 9, none, .move (.tmp 11), []⟩]]) 
 (.block 0 
 (.loop 
 (.seq 
 (.seq (.ops [.grp none [⟨some 12, none, .move (.tmp 9), []⟩, ⟨some 13, none, .faddr 1 (.tmp 4), []⟩, ⟨some 14, none, .load none (.tmp 13), []⟩, ⟨some 15, none, .faddr 2 (.tmp 4), []⟩, ⟨some 16, none, .load none (.tmp 15), []⟩, ⟨some 17, none, .call 46 #[.tmp 16], [⟨some 14, none, .load none (.tmp 13)⟩]⟩, ⟨some 18, none, .bin .add 3 (.tmp 14) (.tmp 17), []⟩, ⟨some 19, none, .bin .lss 3 (.tmp 12) (.tmp 18), []⟩]]) 
 (.cond (.tmp 19) .skip (.exit 0))) 
 (.seq 
 (.block 1 
 (.seq (.ops [.grp none [⟨some 22, none, .faddr 0 (.tmp 4), []⟩, ⟨some 23, none, .load none (.tmp 22), []⟩, ⟨some 24, none, .move (.tmp 1), []⟩, ⟨some 25, none, .bin .eql 3 (.tmp 23) (.tmp 24), []⟩, ⟨some 26, none, .move (.tmp 25), []⟩],
  .grp (some (some 26, true)) [⟨some 27, none, .move (.tmp 9), []⟩, ⟨some 28, none, .move (.tmp 2), []⟩, ⟨some 29, none, .bin .geq 3 (.tmp 27) (.tmp 28), []⟩],
  .grp none [⟨some 30, none, .pick (.tmp 26) (.tmp 29) (.const (.bool false)), []⟩, ⟨some 31, none, .move (.tmp 30), []⟩],
  .grp (some (some 31, true)) [⟨some 32, none, .move (.tmp 2), []⟩, ⟨some 33, none, .bin .lss 3 (.tmp 32) (.const (.int .i64 0)), []⟩, ⟨some 34, none, .move (.tmp 33), []⟩],
  .grp (some (some 34, true)) [⟨some 35, none, .move (.tmp 3), []⟩, ⟨some 36, none, .move (.tmp 9), []⟩, ⟨some 37, none, .bin .gtr 3 (.tmp 35) (.tmp 36), []⟩],
  .grp (some (some 31, true)) [⟨some 38, none, .pick (.tmp 34) (.tmp 37) (.const (.bool false)), []⟩, ⟨some 39, none, .move (.tmp 38), []⟩],
  .grp (some (some 39, true)) [⟨some 40, none, .move (.tmp 3), []⟩, ⟨some 41, none, .move (.tmp 2), []⟩, ⟨some 42, none, .bin .add 3 (.tmp 40) (.tmp 41), []⟩, ⟨some 43, none, .move (.tmp 9), []⟩, ⟨some 44, none, .bin .gtr 3 (.tmp 42) (.tmp 43), []⟩],
  .grp (some (some 31, true)) [⟨some 45, none, .pick (.tmp 39) (.tmp 44) (.const (.bool false)), []⟩, ⟨some 46, none, .move (.tmp 45), []⟩],
  .grp (some (some 46, false)) [⟨some 47, none, .move (.tmp 2), []⟩, ⟨some 48, none, .bin .geq 3 (.tmp 47) (.const (.int .i64 0)), []⟩, ⟨some 49, none, .move (.tmp 48), []⟩],
  .grp (some (some 49, true)) [⟨some 50, none, .move (.tmp 9), []⟩, ⟨some 51, none, .move (.tmp 2), []⟩, ⟨some 52, none, .bin .sub 3 (.tmp 50) (.tmp 51), []⟩, ⟨some 53, none, .move (.tmp 3), []⟩, ⟨some 54, none, .bin .lss 3 (.tmp 52) (.tmp 53), []⟩],
  .grp (some (some 46, false)) [⟨some 55, none, .pick (.tmp 49) (.tmp 54) (.const (.bool false)), []⟩],
  .grp (some (some 31, true)) [⟨some 56, none, .pick (.tmp 46) (.const (.bool true)) (.tmp 55), []⟩],
  .grp none [⟨some 57, none, .pick (.tmp 31) (.tmp 56) (.const (.bool false)), []⟩]]) 
 (.cond (.tmp 57) 
 (.seq (.ops [.grp none [⟨some 8, none, .move (.const (.bool true)), []⟩]]) .ret) .skip))) (.ops [.grp none [⟨some 20, none, .move (.tmp 9), []⟩, ⟨some 21, none, .bin .add 3 (.tmp 20) (.const (.int .i64 1)), []⟩, ⟨some 9, none, .move (.tmp 21), []⟩]])))))) 
 (.seq (.ops [.grp none [⟨some 8, none, .move (.const (.bool false)), []⟩]]) .ret))⟩
theorem low48 : lowG Try.prog 48 = some g48 := by kernel_rfl

def g49 : GFn :=
 ⟨53, [⟨2, none⟩], .seq (.ops [.grp none [⟨some 1, none, .box 31 (.tmp 0), []⟩, ⟨some 2, none, .move (.const (.bool false)), []⟩]]) 
 (.seq 
 (.seq (.ops [.grp none [⟨some 3, none, .faddr 2 (.tmp 1), []⟩, ⟨some 4, none, .load none (.tmp 3), []⟩, ⟨some 5, none, .bin .neq 3 (.tmp 4) (.const (.int .i64 0)), []⟩, ⟨some 6, none, .move (.tmp 5), []⟩],
  .grp (some (some 6, true)) [⟨some 7, none, .faddr 2 (.tmp 1), []⟩, ⟨some 8, none, .load none (.tmp 7), []⟩, ⟨some 9, none, .bin .neq 3 (.tmp 8) (.const (.int .i64 3)), []⟩],
  .grp none [⟨some 10, none, .pick (.tmp 6) (.tmp 9) (.const (.bool false)), []⟩, ⟨some 11, none, .move (.tmp 10), []⟩],
  .grp (some (some 11, true)) [⟨some 12, none, .faddr 2 (.tmp 1), []⟩, ⟨some 13, none, .load none (.tmp 12), []⟩, ⟨some 14, none, .bin .neq 3 (.tmp 13) (.const (.int .i64 6)), []⟩],
  .grp none [⟨some 15, none, .pick (.tmp 11) (.tmp 14) (.const (.bool false)), []⟩]]) 
 (.cond (.tmp 15) 
 (.seq (.ops [.grp none [⟨some 2, none, .move (.const (.bool false)), []⟩]]) .ret) .skip)) 
 (.seq (.ops [.grp none [⟨some 16, none, .faddr 0 (.tmp 1), []⟩, ⟨some 17, none, .load none (.tmp 16), []⟩, ⟨some 18, none, .bin .geq 3 (.tmp 17) (.const (.int .i64 0)), []⟩, ⟨some 19, none, .move (.tmp 18), []⟩],
  .grp (some (some 19, true)) [⟨some 20, none, .faddr 1 (.tmp 1), []⟩, ⟨some 21, none, .load none (.tmp 20), []⟩, ⟨some 22, none, .bin .geq 3 (.tmp 21) (.const (.int .i64 0)), []⟩],
  .grp none [⟨some 23, none, .pick (.tmp 19) (.tmp 22) (.const (.bool false)), []⟩, ⟨some 24, none, .move (.tmp 23), []⟩],
  .grp (some (some 24, true)) [⟨some 25, none, .faddr 1 (.tmp 1), []⟩, ⟨some 26, none, .load none (.tmp 25), []⟩, ⟨some 27, none, .bin .lss 3 (.tmp 26) (.const (.int .i64 4096)), []⟩],
  .grp none [⟨some 28, none, .pick (.tmp 24) (.tmp 27) (.const (.bool false)), []⟩, ⟨some 29, none, .move (.tmp 28), []⟩],
  .grp (some (some 29, true)) [⟨some 30, none, .faddr 3 (.tmp 1), []⟩, ⟨some 31, none, .load none (.tmp 30), []⟩, ⟨some 32, none, .bin .geq 3 (.tmp 31) (.const (.int .i64 0)), []⟩],
  .grp none [⟨some 33, none, .pick (.tmp 29) (.tmp 32) (.const (.bool false)), []⟩, ⟨some 34, none, .move (.tmp 33), []⟩],
  .grp (some (some 34, true)) [⟨some 35, none, .faddr 3 (.tmp 1), []⟩, ⟨some 36, none, .load none (.tmp 35), []⟩, ⟨some 37, none, .bin .lss 3 (.tmp 36) (.const (.int .i64 1048576)), []⟩],
  .grp none [⟨some 38, none, .pick (.tmp 34) (.tmp 37) (.const (.bool false)), []⟩, ⟨some 39, none, .move (.tmp 38), []⟩],
  .grp (some (some 39, true)) [⟨some 40, none, .faddr 1 (.tmp 1), []⟩, ⟨some 41, none, .load none (.tmp 40), []⟩, ⟨some 42, none, .faddr 2 (.tmp 1), []⟩, ⟨some 43, none, .load none (.tmp 42), []⟩, ⟨some 44, none, .call 65 #[.tmp 41, .tmp 43], []⟩],
  .grp none [⟨some 45, none, .pick (.tmp 39) (.tmp 44) (.const (.bool false)), []⟩, ⟨some 46, none, .move (.tmp 45), []⟩],
  .grp (some (some 46, true)) [⟨some 47, none, .faddr 3 (.tmp 1), []⟩, ⟨some 48, none, .load none (.tmp 47), []⟩, ⟨some 49, none, .faddr 2 (.tmp 1), []⟩, ⟨some 50, none, .load none (.tmp 49), []⟩, ⟨some 51, none, .call 65 #[.tmp 48, .tmp 50], []⟩],
  .grp none [⟨some 52, none, .pick (.tmp 46) (.tmp 51) (.const (.bool false)), []⟩, ⟨some 2, none, .move (.tmp 52), []⟩]]) .ret))⟩
theorem low49 : lowG Try.prog 49 = some g49 := by kernel_rfl

def t62 : GC :=
 (.seq (.ops [.grp none [⟨some 35, none, .move (.tmp 0), []⟩, ⟨some 37, none, .move (.tmp 0), []⟩, ⟨some 38, none, .nonnil (.tmp 37), []⟩, ⟨some 39, none, .faddr 1 (.tmp 38), []⟩, ⟨some 40, none, .load none (.tmp 39), []⟩, ⟨some 42, none, .load (some 5) (.tmp 3), []⟩, ⟨some 36, none, .row 31 5 0 #[] [], [⟨some 42, none, .load (some 5) (.tmp 3)⟩, ⟨some 40, none, .load none (.tmp 39)⟩]⟩, ⟨some 41, none, .append 31 5 40 (.tmp 36) (.tmp 40), [⟨some 42, none, .load (some 5) (.tmp 3)⟩]⟩, ⟨some 43, none, .row 31 5 1 #[.int .i64 0, .int .i64 0, .int .i64 0, .int .i64 0, .bool false] [(0, .tmp 42)], [⟨some 40, none, .load none (.tmp 39)⟩]⟩, ⟨some 44, none, .append 31 5 40 (.tmp 41) (.tmp 43), []⟩, ⟨some 45, none, .nonnil (.tmp 35), []⟩, ⟨some 46, none, .faddr 1 (.tmp 45), []⟩, ⟨none, none, .store 1 (.tmp 46) (.tmp 44), []⟩]]) 
 (.seq (.ops [.grp none [⟨some 4, none, .move (.const (.int .i64 0)), []⟩]]) .ret))
def g62 : GFn :=
 ⟨47, [⟨4, none⟩], .seq (.ops [.grp none [⟨some 3, none, .box 31 (.tmp 1), []⟩, ⟨some 4, none, .move (.const (.int .i64 0)), []⟩]]) 
 (.seq 
 (.seq (.ops [.grp none [⟨some 5, none, .load (some 5) (.tmp 3), []⟩, ⟨some 6, none, .call 21 #[.tmp 5], []⟩, ⟨some 7, none, .un .not (.tmp 6), []⟩]]) 
 (.cond (.tmp 7) 
 (.seq (.ops [.grp none [⟨some 4, none, .move (.const (.int .i64 2)), []⟩]]) .ret) .skip)) 
 (.seq (.ops [.grp none [⟨some 8, none, .move (.tmp 0), []⟩, ⟨some 9, none, .faddr 0 (.tmp 3), []⟩, ⟨some 10, none, .load none (.tmp 9), []⟩, ⟨some 11, none, .faddr 1 (.tmp 3), []⟩, ⟨some 12, none, .load none (.tmp 11), []⟩, ⟨some 13, none, .faddr 2 (.tmp 3), []⟩, ⟨some 14, none, .load none (.tmp 13), []⟩, ⟨some 15, none, .call 46 #[.tmp 14], [⟨some 12, none, .load none (.tmp 11)⟩, ⟨some 10, none, .load none (.tmp 9)⟩]⟩, ⟨some 16, none, .call 23 #[.tmp 8, .tmp 10, .tmp 12, .tmp 15], []⟩]]) 
 (.seq 
 (.seq (.ops [.grp none [⟨some 17, none, .move (.tmp 0), []⟩, ⟨some 18, none, .nonnil (.tmp 17), []⟩, ⟨some 19, none, .faddr 1 (.tmp 18), []⟩, ⟨some 20, none, .load none (.tmp 19), []⟩, ⟨some 21, none, .len (.tmp 20), []⟩, ⟨some 22, none, .move (.tmp 0), []⟩, ⟨some 23, none, .nonnil (.tmp 22), []⟩, ⟨some 24, none, .faddr 0 (.tmp 23), []⟩, ⟨some 25, none, .load none (.tmp 24), []⟩, ⟨some 26, none, .bin .geq 3 (.tmp 21) (.tmp 25), []⟩]]) 
 (.cond (.tmp 26) (.ops [.grp none [⟨some 27, none, .move (.tmp 0), []⟩, ⟨some 28, none, .move (.tmp 0), []⟩, ⟨some 29, none, .nonnil (.tmp 28), []⟩, ⟨some 30, none, .faddr 1 (.tmp 29), []⟩, ⟨some 31, none, .load none (.tmp 30), []⟩, ⟨some 32, none, .slice 31 5 (.tmp 31) (some (.const (.int .i64 1))) none none, []⟩, ⟨some 33, none, .nonnil (.tmp 27), []⟩, ⟨some 34, none, .faddr 1 (.tmp 33), []⟩, ⟨none, none, .store 1 (.tmp 34) (.tmp 32), []⟩]]) .skip)) 
 t62)))⟩
theorem low62 : lowG Try.prog 62 = some g62 := by kernel_rfl

def g63 : GFn :=
 ⟨35, [⟨4, none⟩], .seq (.ops [.grp none [⟨some 4, none, .move (.const (.int .i64 0)), []⟩]]) 
 (.seq 
 (.seq (.ops [.grp none [⟨some 5, none, .move (.tmp 1), []⟩, ⟨some 6, none, .bin .lss 3 (.tmp 5) (.const (.int .i64 0)), []⟩, ⟨some 7, none, .move (.tmp 6), []⟩],
  .grp (some (some 7, false)) [⟨some 8, none, .move (.tmp 1), []⟩, ⟨some 9, none, .move (.tmp 0), []⟩, ⟨some 10, none, .nonnil (.tmp 9), []⟩, ⟨some 11, none, .faddr 1 (.tmp 10), []⟩, ⟨some 12, none, .load none (.tmp 11), []⟩, ⟨some 13, none, .len (.tmp 12), []⟩, ⟨some 14, none, .bin .geq 3 (.tmp 8) (.tmp 13), []⟩],
  .grp none [⟨some 15, none, .pick (.tmp 7) (.const (.bool true)) (.tmp 14), []⟩]]) 
 (.cond (.tmp 15) 
 (.seq (.ops [.grp none [⟨some 4, none, .move (.const (.int .i64 3)), []⟩]]) .ret) .skip)) 
 (.seq (.ops [.grp none [⟨some 16, none, .move (.tmp 0), []⟩, ⟨some 18, none, .move (.tmp 0), []⟩, ⟨some 19, none, .nonnil (.tmp 18), []⟩, ⟨some 20, none, .faddr 1 (.tmp 19), []⟩, ⟨some 21, none, .load none (.tmp 20), []⟩, ⟨some 22, none, .move (.tmp 1), []⟩, ⟨some 23, none, .slice 31 5 (.tmp 21) none (some (.tmp 22)) none, []⟩, ⟨some 25, none, .move (.tmp 0), []⟩, ⟨some 26, none, .nonnil (.tmp 25), []⟩, ⟨some 27, none, .faddr 1 (.tmp 26), []⟩, ⟨some 28, none, .load none (.tmp 27), []⟩, ⟨some 29, none, .move (.tmp 1), []⟩, ⟨some 30, none, .bin .add 3 (.tmp 29) (.const (.int .i64 1)), []⟩, ⟨some 31, none, .slice 31 5 (.tmp 28) (some (.tmp 30)) none none, []⟩, ⟨some 17, none, .row 31 5 0 #[] [], [⟨some 31, none, .slice 31 5 (.tmp 28) (some (.tmp 30)) none none⟩, ⟨some 28, none, .load none (.tmp 27)⟩, ⟨some 23, none, .slice 31 5 (.tmp 21) none (some (.tmp 22)) none⟩, ⟨some 21, none, .load none (.tmp 20)⟩]⟩, ⟨some 24, none, .append 31 5 40 (.tmp 17) (.tmp 23), [⟨some 31, none, .slice 31 5 (.tmp 28) (some (.tmp 30)) none none⟩, ⟨some 28, none, .load none (.tmp 27)⟩]⟩, ⟨some 32, none, .append 31 5 40 (.tmp 24) (.tmp 31), []⟩, ⟨some 33, none, .nonnil (.tmp 16), []⟩, ⟨some 34, none, .faddr 1 (.tmp 33), []⟩, ⟨none, none, .store 1 (.tmp 34) (.tmp 32), []⟩]]) 
 (.seq (.ops [.grp none [⟨some 4, none, .move (.const (.int .i64 0)), []⟩]]) .ret)))⟩
theorem low63 : lowG Try.prog 63 = some g63 := by kernel_rfl

def g64 : GFn :=
 ⟨66, [], .seq (.ops [.grp none [⟨some 10, none, .load none (.tmp 1), []⟩, ⟨some 11, none, .nonnil (.tmp 10), []⟩, ⟨some 12, none, .faddr 1 (.tmp 11), []⟩, ⟨some 13, none, .load none (.tmp 12), []⟩, ⟨some 14, none, .len (.tmp 13), []⟩, ⟨some 15, none, .move (.const (.int .i64 0)), []⟩]]) 
 (.block 0 
 (.loop 
 (.seq (.ops [.grp none [⟨some 16, none, .bin .lss 3 (.tmp 15) (.tmp 14), []⟩]]) 
 (.seq 
 (.cond (.tmp 16) .skip (.exit 0)) 
 (.seq 
 (.block 1 
 (.seq (.ops [.grp none [⟨some 17, none, .move (.tmp 15), []⟩, ⟨some 18, none, .iaddr 5 (.tmp 13) (.tmp 15), []⟩, ⟨some 19, none, .load (some 5) (.tmp 18), []⟩, ⟨some 7, none, .zero 31 #[.int .i64 0, .int .i64 0, .int .i64 0, .int .i64 0, .bool false], []⟩, ⟨some 6, none, .move (.tmp 17), []⟩, ⟨none, none, .store 5 (.tmp 7) (.tmp 19), []⟩]]) 
 (.seq (.ops [.grp none [⟨some 20, none, .faddr 1 (.tmp 7), []⟩, ⟨some 21, none, .load none (.tmp 20), []⟩, ⟨some 22, none, .load none (.tmp 2), []⟩, ⟨some 23, none, .bin .lss 3 (.tmp 21) (.tmp 22), []⟩, ⟨some 24, none, .move (.tmp 23), []⟩],
  .grp (some (some 24, true)) [⟨some 25, none, .load none (.tmp 2), []⟩, ⟨some 26, none, .faddr 1 (.tmp 7), []⟩, ⟨some 27, none, .load none (.tmp 26), []⟩, ⟨some 28, none, .bin .sub 3 (.tmp 25) (.tmp 27), []⟩, ⟨some 29, none, .faddr 2 (.tmp 7), []⟩, ⟨some 30, none, .load none (.tmp 29), []⟩, ⟨some 31, none, .bin .shl 3 (.const (.int .i64 1)) (.tmp 30), []⟩, ⟨some 32, none, .bin .geq 3 (.tmp 28) (.tmp 31), []⟩],
  .grp none [⟨some 33, none, .pick (.tmp 24) (.tmp 32) (.const (.bool false)), []⟩, ⟨some 8, none, .move (.tmp 33), []⟩]]) 
 (.seq (.ops [.grp none [⟨some 34, none, .faddr 1 (.tmp 7), []⟩, ⟨some 35, none, .load none (.tmp 34), []⟩, ⟨some 36, none, .load none (.tmp 2), []⟩, ⟨some 37, none, .bin .geq 3 (.tmp 35) (.tmp 36), []⟩, ⟨some 38, none, .move (.tmp 37), []⟩],
  .grp (some (some 38, true)) [⟨some 39, none, .faddr 1 (.tmp 7), []⟩, ⟨some 40, none, .load none (.tmp 39), []⟩, ⟨some 41, none, .load none (.tmp 2), []⟩, ⟨some 42, none, .bin .sub 3 (.tmp 40) (.tmp 41), []⟩, ⟨some 43, none, .load none (.tmp 3), []⟩, ⟨some 44, none, .bin .geq 3 (.tmp 42) (.tmp 43), []⟩],
  .grp none [⟨some 45, none, .pick (.tmp 38) (.tmp 44) (.const (.bool false)), []⟩, ⟨some 9, none, .move (.tmp 45), []⟩]]) 
 (.seq (.ops [.grp none [⟨some 46, none, .faddr 0 (.tmp 7), []⟩, ⟨some 47, none, .load none (.tmp 46), []⟩, ⟨some 48, none, .load none (.tmp 4), []⟩, ⟨some 49, none, .bin .eql 3 (.tmp 47) (.tmp 48), []⟩, ⟨some 50, none, .move (.tmp 49), []⟩],
  .grp (some (some 50, true)) [⟨some 51, none, .move (.tmp 8), []⟩, ⟨some 52, none, .un .not (.tmp 51), []⟩],
  .grp none [⟨some 53, none, .pick (.tmp 50) (.tmp 52) (.const (.bool false)), []⟩, ⟨some 54, none, .move (.tmp 53), []⟩],
  .grp (some (some 54, true)) [⟨some 55, none, .move (.tmp 9), []⟩, ⟨some 56, none, .un .not (.tmp 55), []⟩],
  .grp none [⟨some 57, none, .pick (.tmp 54) (.tmp 56) (.const (.bool false)), []⟩, ⟨some 58, none, .move (.tmp 57), []⟩],
  .grp (some (some 58, true)) [⟨some 59, none, .move (.tmp 0), []⟩, ⟨some 60, none, .move (.tmp 6), []⟩, ⟨some 61, none, .load (some 5) (.tmp 7), []⟩, ⟨some 62, none, .callv (.tmp 59) #[.tmp 60, .tmp 61], []⟩, ⟨some 63, none, .un .not (.tmp 62), []⟩],
  .grp none [⟨some 64, none, .pick (.tmp 58) (.tmp 63) (.const (.bool false)), []⟩]]) 
 (.cond (.tmp 64) .ret .skip)))))) (.ops [.grp none [⟨some 65, none, .bin .add 3 (.tmp 15) (.const (.int .i64 1)), []⟩, ⟨some 15, none, .move (.tmp 65), []⟩]]))))))⟩
theorem low64 : lowG Try.prog 64 = some g64 := by kernel_rfl

def g65 : GFn :=
 ⟨14, [⟨4, none⟩], .seq (.ops [.grp none [⟨some 4, none, .move (.const (.bool false)), []⟩]]) 
 (.seq (.ops [.grp none [⟨some 5, none, .move (.tmp 1), []⟩, ⟨some 6, none, .call 69 #[.tmp 5], []⟩, ⟨some 7, none, .move (.tmp 6), []⟩],
  .grp (some (some 7, true)) [⟨some 8, none, .move (.tmp 0), []⟩, ⟨some 9, none, .move (.tmp 1), []⟩, ⟨some 10, none, .call 70 #[.tmp 8, .tmp 9], []⟩, ⟨some 11, none, .move (.tmp 0), []⟩, ⟨some 12, none, .bin .eql 3 (.tmp 10) (.tmp 11), []⟩],
  .grp none [⟨some 13, none, .pick (.tmp 7) (.tmp 12) (.const (.bool false)), []⟩, ⟨some 4, none, .move (.tmp 13), []⟩]]) .ret)⟩
theorem low65 : lowG Try.prog 65 = some g65 := by kernel_rfl

def g69 : GFn :=
 ⟨9, [⟨2, none⟩], .seq (.ops [.grp none [⟨some 2, none, .move (.const (.bool false)), []⟩]]) 
 (.seq (.ops [.grp none [⟨some 3, none, .move (.tmp 0), []⟩, ⟨some 4, none, .bin .geq 3 (.tmp 3) (.const (.int .i64 0)), []⟩, ⟨some 5, none, .move (.tmp 4), []⟩],
  .grp (some (some 5, true)) [⟨some 6, none, .move (.tmp 0), []⟩, ⟨some 7, none, .bin .leq 3 (.tmp 6) (.const (.int .i64 8)), []⟩],
  .grp none [⟨some 8, none, .pick (.tmp 5) (.tmp 7) (.const (.bool false)), []⟩, ⟨some 2, none, .move (.tmp 8), []⟩]]) .ret)⟩
theorem low69 : lowG Try.prog 69 = some g69 := by kernel_rfl

def g70 : GFn :=
 ⟨14, [⟨4, none⟩], .seq (.ops [.grp none [⟨some 4, none, .move (.const (.int .i64 0)), []⟩]]) 
 (.seq 
 (.seq (.ops [.grp none [⟨some 5, none, .move (.tmp 1), []⟩, ⟨some 6, none, .call 69 #[.tmp 5], []⟩, ⟨some 7, none, .un .not (.tmp 6), []⟩]]) 
 (.cond (.tmp 7) 
 (.seq (.ops [.grp none [⟨some 8, none, .move (.tmp 0), []⟩, ⟨some 4, none, .move (.tmp 8), []⟩]]) .ret) .skip)) 
 (.seq (.ops [.grp none [⟨some 9, none, .move (.tmp 0), []⟩, ⟨some 10, none, .move (.tmp 1), []⟩, ⟨some 11, none, .bin .shl 3 (.const (.int .i64 1)) (.tmp 10), []⟩, ⟨some 12, none, .bin .sub 3 (.tmp 11) (.const (.int .i64 1)), []⟩, ⟨some 13, none, .bin .andNot 3 (.tmp 9) (.tmp 12), []⟩, ⟨some 4, none, .move (.tmp 13), []⟩]]) .ret))⟩
theorem low70 : lowG Try.prog 70 = some g70 := by kernel_rfl

def g14 : GFn :=
 ⟨57, [⟨4, none⟩, ⟨5, none⟩, ⟨6, none⟩], .seq (.ops [.grp none [⟨some 4, none, .move (.const (.pointer none)), []⟩, ⟨some 5, none, .move (.const (.pointer none)), []⟩, ⟨some 6, none, .move (.const (.bool false)), []⟩]]) 
 (.seq (.ops [.grp none [⟨some 13, none, .move (.tmp 0), []⟩, ⟨some 14, none, .call 43 #[.tmp 13], []⟩, ⟨some 12, none, .move (.tmp 14), []⟩, ⟨some 15, none, .extract (.tmp 12) 0, []⟩, ⟨some 16, none, .extract (.tmp 12) 1, []⟩, ⟨some 7, none, .move (.tmp 15), []⟩, ⟨some 8, none, .move (.tmp 16), []⟩]]) 
 (.seq (.ops [.grp none [⟨some 17, none, .move (.tmp 0), []⟩, ⟨some 18, none, .bin .lss 3 (.tmp 17) (.const (.int .i64 1)), []⟩, ⟨some 19, none, .move (.tmp 18), []⟩],
  .grp (some (some 19, false)) [⟨some 20, none, .move (.tmp 0), []⟩, ⟨some 21, none, .bin .gtr 3 (.tmp 20) (.const (.int .i64 64)), []⟩],
  .grp none [⟨some 22, none, .pick (.tmp 19) (.const (.bool true)) (.tmp 21), []⟩, ⟨some 9, none, .move (.tmp 22), []⟩]]) 
 (.seq 
 (.seq (.ops [.grp none [⟨some 23, none, .move (.tmp 9), []⟩, ⟨some 24, none, .move (.tmp 8), []⟩, ⟨some 25, none, .bin .eql 47 (.tmp 24) (.const (.int .i64 2)), []⟩, ⟨some 26, none, .bin .neq 4 (.tmp 23) (.tmp 25), []⟩, ⟨some 27, none, .move (.tmp 26), []⟩],
  .grp (some (some 27, false)) [⟨some 28, none, .move (.tmp 7), []⟩, ⟨some 29, none, .bin .eql 25 (.tmp 28) (.const (.pointer none)), []⟩, ⟨some 30, none, .move (.tmp 9), []⟩, ⟨some 31, none, .bin .neq 4 (.tmp 29) (.tmp 30), []⟩],
  .grp none [⟨some 32, none, .pick (.tmp 27) (.const (.bool true)) (.tmp 31), []⟩]]) 
 (.cond (.tmp 32) 
 (.seq (.ops [.grp none [⟨some 4, none, .move (.const (.pointer none)), []⟩, ⟨some 5, none, .move (.const (.pointer none)), []⟩, ⟨some 6, none, .move (.const (.bool false)), []⟩]]) .ret) .skip)) 
 (.seq 
 (.seq (.ops [.grp none [⟨some 33, none, .move (.tmp 9), []⟩]]) 
 (.cond (.tmp 33) 
 (.seq (.ops [.grp none [⟨some 4, none, .move (.const (.pointer none)), []⟩, ⟨some 5, none, .move (.const (.pointer none)), []⟩, ⟨some 6, none, .move (.const (.bool true)), []⟩]]) .ret) .skip)) 
 (.seq (.ops [.grp none [⟨some 34, none, .move (.tmp 0), []⟩, ⟨some 35, none, .build #[(0, 1), (1, 1)] #[.int .i64 0, .slice none 0 0] [(0, .tmp 34)], []⟩, ⟨some 36, none, .box 38 (.tmp 35), []⟩, ⟨some 10, none, .move (.tmp 36), []⟩]]) 
 (.seq 
 (.seq (.ops [.grp none [⟨some 11, none, .move (.const (.int .i64 0)), []⟩]]) 
 (.block 0 
 (.loop 
 (.seq 
 (.seq (.ops [.grp none [⟨some 37, none, .move (.tmp 11), []⟩, ⟨some 38, none, .move (.tmp 1), []⟩, ⟨some 39, none, .len (.tmp 38), []⟩, ⟨some 40, none, .bin .lss 3 (.tmp 37) (.tmp 39), []⟩, ⟨some 41, none, .move (.tmp 40), []⟩],
  .grp (some (some 41, true)) [⟨some 42, none, .move (.tmp 11), []⟩, ⟨some 43, none, .bin .lss 3 (.tmp 42) (.const (.int .i64 60)), []⟩],
  .grp none [⟨some 44, none, .pick (.tmp 41) (.tmp 43) (.const (.bool false)), []⟩]]) 
 (.cond (.tmp 44) .skip (.exit 0))) 
 (.seq 
 (.block 1 
 (.seq (.ops [.grp none [⟨some 47, none, .move (.tmp 7), []⟩, ⟨some 48, none, .move (.tmp 10), []⟩, ⟨some 49, none, .move (.tmp 1), []⟩, ⟨some 50, none, .move (.tmp 11), []⟩, ⟨some 51, none, .iaddr 9 (.tmp 49) (.tmp 50), []⟩, ⟨some 52, none, .load (some 9) (.tmp 51), []⟩, ⟨some 53, none, .call 44 #[.tmp 47, .tmp 48, .tmp 52], []⟩, ⟨some 54, none, .un .not (.tmp 53), []⟩]]) 
 (.cond (.tmp 54) 
 (.seq (.ops [.grp none [⟨some 4, none, .move (.const (.pointer none)), []⟩, ⟨some 5, none, .move (.const (.pointer none)), []⟩, ⟨some 6, none, .move (.const (.bool false)), []⟩]]) .ret) .skip))) (.ops [.grp none [⟨some 45, none, .move (.tmp 11), []⟩, ⟨some 46, none, .bin .add 3 (.tmp 45) (.const (.int .i64 1)), []⟩, ⟨some 11, none, .move (.tmp 46), []⟩]])))))) 
 (.seq (.ops [.grp none [⟨some 55, none, .move (.tmp 7), []⟩, ⟨some 56, none, .move (.tmp 10), []⟩, ⟨some 4, none, .move (.tmp 55), []⟩, ⟨some 5, none, .move (.tmp 56), []⟩, ⟨some 6, none, .move (.const (.bool true)), []⟩]]) .ret)))))))⟩
theorem low14 : lowG Try.prog 14 = some g14 := by kernel_rfl

def g3 : GFn :=
 ⟨74, [⟨2, none⟩], .seq (.ops [.grp none [⟨some 1, none, .box 24 (.tmp 0), []⟩, ⟨some 2, none, .move (.const (.bool false)), []⟩]]) 
 (.seq (.ops [.grp none [⟨some 14, none, .faddr 0 (.tmp 1), []⟩, ⟨some 15, none, .load none (.tmp 14), []⟩, ⟨some 16, none, .faddr 1 (.tmp 1), []⟩, ⟨some 17, none, .load none (.tmp 16), []⟩, ⟨some 18, none, .faddr 2 (.tmp 1), []⟩, ⟨some 19, none, .load none (.tmp 18), []⟩, ⟨some 20, none, .faddr 3 (.tmp 1), []⟩, ⟨some 21, none, .load none (.tmp 20), []⟩, ⟨some 3, none, .move (.tmp 15), []⟩, ⟨some 4, none, .move (.tmp 17), []⟩, ⟨some 5, none, .move (.tmp 19), []⟩, ⟨some 6, none, .move (.tmp 21), []⟩]]) 
 (.seq (.ops [.grp none [⟨some 23, none, .move (.tmp 3), []⟩, ⟨some 24, none, .move (.tmp 4), []⟩, ⟨some 25, none, .call 14 #[.tmp 23, .tmp 24], []⟩, ⟨some 22, none, .move (.tmp 25), []⟩, ⟨some 26, none, .extract (.tmp 22) 0, []⟩, ⟨some 27, none, .extract (.tmp 22) 1, []⟩, ⟨some 28, none, .extract (.tmp 22) 2, []⟩, ⟨some 7, none, .move (.tmp 26), []⟩, ⟨some 8, none, .move (.tmp 27), []⟩, ⟨some 9, none, .move (.tmp 28), []⟩]]) 
 (.seq 
 (.seq (.ops [.grp none [⟨some 29, none, .move (.tmp 9), []⟩, ⟨some 30, none, .un .not (.tmp 29), []⟩, ⟨some 31, none, .move (.tmp 30), []⟩],
  .grp (some (some 31, false)) [⟨some 32, none, .call 15 #[], []⟩, ⟨some 33, none, .un .not (.tmp 32), []⟩],
  .grp none [⟨some 34, none, .pick (.tmp 31) (.const (.bool true)) (.tmp 33), []⟩, ⟨some 35, none, .move (.tmp 34), []⟩],
  .grp (some (some 35, false)) [⟨some 36, none, .move (.tmp 8), []⟩, ⟨some 37, none, .bin .eql 26 (.tmp 36) (.const (.pointer none)), []⟩],
  .grp none [⟨some 38, none, .pick (.tmp 35) (.const (.bool true)) (.tmp 37), []⟩]]) 
 (.cond (.tmp 38) 
 (.seq (.ops [.grp none [⟨some 39, none, .move (.tmp 9), []⟩, ⟨some 40, none, .move (.tmp 39), []⟩],
  .grp (some (some 40, true)) [⟨some 41, none, .call 15 #[], []⟩],
  .grp none [⟨some 42, none, .pick (.tmp 40) (.tmp 41) (.const (.bool false)), []⟩, ⟨some 2, none, .move (.tmp 42), []⟩]]) .ret) .skip)) 
 (.seq (.ops [.grp none [⟨some 44, none, .move (.tmp 7), []⟩, ⟨some 45, none, .move (.tmp 5), []⟩, ⟨some 46, none, .move (.tmp 6), []⟩, ⟨some 47, none, .call 16 #[.tmp 44, .tmp 45, .tmp 46], []⟩, ⟨some 43, none, .move (.tmp 47), []⟩, ⟨some 48, none, .extract (.tmp 43) 0, []⟩, ⟨some 49, none, .extract (.tmp 43) 1, []⟩, ⟨some 10, none, .zero 31 #[.int .i64 0, .int .i64 0, .int .i64 0, .int .i64 0, .bool false], []⟩, ⟨none, none, .store 5 (.tmp 10) (.tmp 48), []⟩, ⟨some 11, none, .move (.tmp 49), []⟩]]) 
 (.seq (.ops [.grp none [⟨some 51, none, .move (.tmp 8), []⟩, ⟨some 52, none, .move (.tmp 5), []⟩, ⟨some 53, none, .move (.tmp 6), []⟩, ⟨some 54, none, .call 17 #[.tmp 51, .tmp 52, .tmp 53], []⟩, ⟨some 50, none, .move (.tmp 54), []⟩, ⟨some 55, none, .extract (.tmp 50) 0, []⟩, ⟨some 56, none, .extract (.tmp 50) 1, []⟩, ⟨some 12, none, .zero 31 #[.int .i64 0, .int .i64 0, .int .i64 0, .int .i64 0, .bool false], []⟩, ⟨none, none, .store 5 (.tmp 12) (.tmp 55), []⟩, ⟨some 13, none, .move (.tmp 56), []⟩]]) 
 (.seq (.ops [.grp none [⟨some 57, none, .move (.tmp 7), []⟩, ⟨some 59, none, .move (.tmp 8), []⟩, ⟨some 60, none, .nonnil (.tmp 59), []⟩, ⟨some 61, none, .faddr 1 (.tmp 60), []⟩, ⟨some 62, none, .load none (.tmp 61), []⟩, ⟨some 58, none, .call 19 #[.tmp 57], [⟨some 62, none, .load none (.tmp 61)⟩]⟩, ⟨some 63, none, .call 18 #[.tmp 58, .tmp 62], []⟩, ⟨some 64, none, .move (.tmp 63), []⟩],
  .grp (some (some 64, true)) [⟨some 65, none, .load (some 5) (.tmp 10), []⟩, ⟨some 66, none, .load (some 5) (.tmp 12), []⟩, ⟨some 67, none, .bin .eql 31 (.tmp 65) (.tmp 66), []⟩],
  .grp none [⟨some 68, none, .pick (.tmp 64) (.tmp 67) (.const (.bool false)), []⟩, ⟨some 69, none, .move (.tmp 68), []⟩],
  .grp (some (some 69, true)) [⟨some 70, none, .move (.tmp 11), []⟩, ⟨some 71, none, .move (.tmp 13), []⟩, ⟨some 72, none, .bin .eql 4 (.tmp 70) (.tmp 71), []⟩],
  .grp none [⟨some 73, none, .pick (.tmp 69) (.tmp 72) (.const (.bool false)), []⟩, ⟨some 2, none, .move (.tmp 73), []⟩]]) .ret))))))⟩
theorem low3 : lowG Try.prog 3 = some g3 := by kernel_rfl

def g4 : GFn :=
 ⟨115, [⟨4, none⟩], .seq (.ops [.grp none [⟨some 4, none, .move (.const (.bool false)), []⟩]]) 
 (.seq (.ops [.grp none [⟨some 14, none, .move (.tmp 0), []⟩, ⟨some 15, none, .bin .rem 5 (.tmp 14) (.const (.int .u8 64)), []⟩, ⟨some 16, none, .conv .i64 (.tmp 15), []⟩, ⟨some 17, none, .bin .add 3 (.tmp 16) (.const (.int .i64 1)), []⟩, ⟨some 18, none, .move (.tmp 1), []⟩, ⟨some 19, none, .call 14 #[.tmp 17, .tmp 18], []⟩, ⟨some 13, none, .move (.tmp 19), []⟩, ⟨some 20, none, .extract (.tmp 13) 0, []⟩, ⟨some 21, none, .extract (.tmp 13) 1, []⟩, ⟨some 22, none, .extract (.tmp 13) 2, []⟩, ⟨some 5, none, .move (.tmp 20), []⟩, ⟨some 6, none, .move (.tmp 21), []⟩, ⟨some 7, none, .move (.tmp 22), []⟩]]) 
 (.seq 
 (.seq (.ops [.grp none [⟨some 23, none, .move (.tmp 7), []⟩, ⟨some 24, none, .un .not (.tmp 23), []⟩, ⟨some 25, none, .move (.tmp 24), []⟩],
  .grp (some (some 25, false)) [⟨some 26, none, .move (.tmp 5), []⟩, ⟨some 27, none, .bin .eql 25 (.tmp 26) (.const (.pointer none)), []⟩],
  .grp none [⟨some 28, none, .pick (.tmp 25) (.const (.bool true)) (.tmp 27), []⟩, ⟨some 29, none, .move (.tmp 28), []⟩],
  .grp (some (some 29, false)) [⟨some 30, none, .call 15 #[], []⟩, ⟨some 31, none, .un .not (.tmp 30), []⟩],
  .grp none [⟨some 32, none, .pick (.tmp 29) (.const (.bool true)) (.tmp 31), []⟩]]) 
 (.cond (.tmp 32) 
 (.seq (.ops [.grp none [⟨some 4, none, .move (.const (.bool false)), []⟩]]) .ret) .skip)) 
 (.seq (.ops [.grp none [⟨some 33, none, .move (.tmp 5), []⟩, ⟨some 34, none, .call 19 #[.tmp 33], []⟩, ⟨some 8, none, .move (.tmp 34), []⟩]]) 
 (.seq 
 (.seq (.ops [.grp none [⟨some 9, none, .move (.const (.int .i64 0)), []⟩]]) 
 (.block 0 
 (.loop 
 (.seq 
 (.seq (.ops [.grp none [⟨some 35, none, .move (.tmp 9), []⟩, ⟨some 36, none, .move (.tmp 8), []⟩, ⟨some 37, none, .len (.tmp 36), []⟩, ⟨some 38, none, .bin .lss 3 (.tmp 35) (.tmp 37), []⟩]]) 
 (.cond (.tmp 38) .skip (.exit 0))) 
 (.seq 
 (.block 1 
 (.seq 
 (.seq (.ops [.grp none [⟨some 10, none, .move (.const (.int .i64 0)), []⟩]]) 
 (.block 2 
 (.loop 
 (.seq 
 (.seq (.ops [.grp none [⟨some 41, none, .move (.tmp 10), []⟩, ⟨some 42, none, .move (.tmp 9), []⟩, ⟨some 43, none, .bin .lss 3 (.tmp 41) (.tmp 42), []⟩]]) 
 (.cond (.tmp 43) .skip (.exit 2))) 
 (.seq 
 (.block 3 
 (.seq (.ops [.grp none [⟨some 46, none, .move (.tmp 8), []⟩, ⟨some 47, none, .move (.tmp 9), []⟩, ⟨some 48, none, .iaddr 5 (.tmp 46) (.tmp 47), []⟩, ⟨some 49, none, .load (some 5) (.tmp 48), []⟩, ⟨some 50, none, .move (.tmp 8), []⟩, ⟨some 51, none, .move (.tmp 10), []⟩, ⟨some 52, none, .iaddr 5 (.tmp 50) (.tmp 51), []⟩, ⟨some 53, none, .faddr 0 (.tmp 52), []⟩, ⟨some 54, none, .load none (.tmp 53), []⟩, ⟨some 55, none, .move (.tmp 8), []⟩, ⟨some 56, none, .move (.tmp 10), []⟩, ⟨some 57, none, .iaddr 5 (.tmp 55) (.tmp 56), []⟩, ⟨some 58, none, .faddr 1 (.tmp 57), []⟩, ⟨some 59, none, .load none (.tmp 58), []⟩, ⟨some 60, none, .call 20 #[.tmp 49, .tmp 54, .tmp 59], []⟩, ⟨some 61, none, .move (.tmp 60), []⟩],
  .grp (some (some 61, false)) [⟨some 62, none, .move (.tmp 8), []⟩, ⟨some 63, none, .move (.tmp 10), []⟩, ⟨some 64, none, .iaddr 5 (.tmp 62) (.tmp 63), []⟩, ⟨some 65, none, .load (some 5) (.tmp 64), []⟩, ⟨some 66, none, .move (.tmp 8), []⟩, ⟨some 67, none, .move (.tmp 9), []⟩, ⟨some 68, none, .iaddr 5 (.tmp 66) (.tmp 67), []⟩, ⟨some 69, none, .faddr 0 (.tmp 68), []⟩, ⟨some 70, none, .load none (.tmp 69), []⟩, ⟨some 71, none, .move (.tmp 8), []⟩, ⟨some 72, none, .move (.tmp 9), []⟩, ⟨some 73, none, .iaddr 5 (.tmp 71) (.tmp 72), []⟩, ⟨some 74, none, .faddr 1 (.tmp 73), []⟩, ⟨some 75, none, .load none (.tmp 74), []⟩, ⟨some 76, none, .call 20 #[.tmp 65, .tmp 70, .tmp 75], []⟩],
  .grp none [⟨some 77, none, .pick (.tmp 61) (.const (.bool true)) (.tmp 76), []⟩]]) 
 (.cond (.tmp 77) 
 (.seq (.ops [.grp none [⟨some 4, none, .move (.const (.bool false)), []⟩]]) .ret) .skip))) (.ops [.grp none [⟨some 44, none, .move (.tmp 10), []⟩, ⟨some 45, none, .bin .add 3 (.tmp 44) (.const (.int .i64 1)), []⟩, ⟨some 10, none, .move (.tmp 45), []⟩]])))))) 
 (.seq (.ops [.grp none [⟨some 79, none, .move (.tmp 5), []⟩, ⟨some 80, none, .move (.tmp 8), []⟩, ⟨some 81, none, .move (.tmp 9), []⟩, ⟨some 82, none, .iaddr 5 (.tmp 80) (.tmp 81), []⟩, ⟨some 83, none, .faddr 0 (.tmp 82), []⟩, ⟨some 84, none, .load none (.tmp 83), []⟩, ⟨some 85, none, .move (.tmp 8), []⟩, ⟨some 86, none, .move (.tmp 9), []⟩, ⟨some 87, none, .iaddr 5 (.tmp 85) (.tmp 86), []⟩, ⟨some 88, none, .faddr 1 (.tmp 87), []⟩, ⟨some 89, none, .load none (.tmp 88), []⟩, ⟨some 90, none, .call 16 #[.tmp 79, .tmp 84, .tmp 89], []⟩, ⟨some 78, none, .move (.tmp 90), []⟩, ⟨some 91, none, .extract (.tmp 78) 0, []⟩, ⟨some 92, none, .extract (.tmp 78) 1, []⟩, ⟨some 11, none, .zero 31 #[.int .i64 0, .int .i64 0, .int .i64 0, .int .i64 0, .bool false], [⟨some 89, none, .load none (.tmp 88)⟩, ⟨some 84, none, .load none (.tmp 83)⟩]⟩, ⟨none, none, .store 5 (.tmp 11) (.tmp 91), []⟩, ⟨some 12, none, .move (.tmp 92), []⟩]]) 
 (.seq (.ops [.grp none [⟨some 93, none, .move (.tmp 12), []⟩, ⟨some 94, none, .un .not (.tmp 93), []⟩, ⟨some 95, none, .move (.tmp 94), []⟩],
  .grp (some (some 95, false)) [⟨some 96, none, .load (some 5) (.tmp 11), []⟩, ⟨some 97, none, .move (.tmp 8), []⟩, ⟨some 98, none, .move (.tmp 9), []⟩, ⟨some 99, none, .iaddr 5 (.tmp 97) (.tmp 98), []⟩, ⟨some 100, none, .load (some 5) (.tmp 99), []⟩, ⟨some 101, none, .bin .neq 31 (.tmp 96) (.tmp 100), []⟩],
  .grp none [⟨some 102, none, .pick (.tmp 95) (.const (.bool true)) (.tmp 101), []⟩, ⟨some 103, none, .move (.tmp 102), []⟩],
  .grp (some (some 103, false)) [⟨some 104, none, .load (some 5) (.tmp 11), []⟩, ⟨some 105, none, .call 21 #[.tmp 104], []⟩, ⟨some 106, none, .un .not (.tmp 105), []⟩],
  .grp none [⟨some 107, none, .pick (.tmp 103) (.const (.bool true)) (.tmp 106), []⟩]]) 
 (.cond (.tmp 107) 
 (.seq (.ops [.grp none [⟨some 4, none, .move (.const (.bool false)), []⟩]]) .ret) .skip))))) (.ops [.grp none [⟨some 39, none, .move (.tmp 9), []⟩, ⟨some 40, none, .bin .add 3 (.tmp 39) (.const (.int .i64 1)), []⟩, ⟨some 9, none, .move (.tmp 40), []⟩]])))))) 
 (.seq (.ops [.grp none [⟨some 108, none, .move (.tmp 8), []⟩, ⟨some 109, none, .len (.tmp 108), []⟩, ⟨some 110, none, .move (.tmp 0), []⟩, ⟨some 111, none, .bin .rem 5 (.tmp 110) (.const (.int .u8 64)), []⟩, ⟨some 112, none, .conv .i64 (.tmp 111), []⟩, ⟨some 113, none, .bin .add 3 (.tmp 112) (.const (.int .i64 1)), []⟩, ⟨some 114, none, .bin .leq 3 (.tmp 109) (.tmp 113), []⟩, ⟨some 4, none, .move (.tmp 114), []⟩]]) .ret)))))⟩
theorem low4 : lowG Try.prog 4 = some g4 := by kernel_rfl

def g5 : GFn :=
 ⟨114, [⟨6, none⟩], .seq (.ops [.grp none [⟨some 5, none, .box 44 (.tmp 2), []⟩, ⟨some 6, none, .move (.const (.bool false)), []⟩]]) 
 (.seq (.ops [.grp none [⟨some 15, none, .move (.tmp 0), []⟩, ⟨some 16, none, .bin .rem 5 (.tmp 15) (.const (.int .u8 64)), []⟩, ⟨some 17, none, .conv .i64 (.tmp 16), []⟩, ⟨some 18, none, .bin .add 3 (.tmp 17) (.const (.int .i64 1)), []⟩, ⟨some 19, none, .move (.tmp 1), []⟩, ⟨some 20, none, .call 14 #[.tmp 18, .tmp 19], []⟩, ⟨some 14, none, .move (.tmp 20), []⟩, ⟨some 21, none, .extract (.tmp 14) 0, []⟩, ⟨some 22, none, .extract (.tmp 14) 1, []⟩, ⟨some 23, none, .extract (.tmp 14) 2, []⟩, ⟨some 7, none, .move (.tmp 21), []⟩, ⟨some 8, none, .move (.tmp 22), []⟩, ⟨some 9, none, .move (.tmp 23), []⟩]]) 
 (.seq 
 (.seq (.ops [.grp none [⟨some 24, none, .move (.tmp 9), []⟩, ⟨some 25, none, .un .not (.tmp 24), []⟩, ⟨some 26, none, .move (.tmp 25), []⟩],
  .grp (some (some 26, false)) [⟨some 27, none, .move (.tmp 7), []⟩, ⟨some 28, none, .bin .eql 25 (.tmp 27) (.const (.pointer none)), []⟩],
  .grp none [⟨some 29, none, .pick (.tmp 26) (.const (.bool true)) (.tmp 28), []⟩, ⟨some 30, none, .move (.tmp 29), []⟩],
  .grp (some (some 30, false)) [⟨some 31, none, .call 15 #[], []⟩, ⟨some 32, none, .un .not (.tmp 31), []⟩],
  .grp none [⟨some 33, none, .pick (.tmp 30) (.const (.bool true)) (.tmp 32), []⟩]]) 
 (.cond (.tmp 33) 
 (.seq (.ops [.grp none [⟨some 6, none, .move (.const (.bool false)), []⟩]]) .ret) .skip)) 
 (.seq (.ops [.grp none [⟨some 34, none, .move (.tmp 7), []⟩, ⟨some 35, none, .call 19 #[.tmp 34], []⟩, ⟨some 10, none, .move (.tmp 35), []⟩]]) 
 (.seq (.ops [.grp none [⟨some 36, none, .move (.tmp 7), []⟩, ⟨some 37, none, .faddr 1 (.tmp 5), []⟩, ⟨some 38, none, .load none (.tmp 37), []⟩, ⟨some 39, none, .faddr 2 (.tmp 5), []⟩, ⟨some 40, none, .load none (.tmp 39), []⟩, ⟨some 41, none, .faddr 3 (.tmp 5), []⟩, ⟨some 42, none, .load none (.tmp 41), []⟩, ⟨some 43, none, .call 22 #[.tmp 36, .tmp 38, .tmp 40, .tmp 42], []⟩, ⟨some 11, none, .move (.tmp 43), []⟩]]) 
 (.seq (.ops [.grp none [⟨some 44, none, .move (.tmp 7), []⟩, ⟨some 45, none, .call 19 #[.tmp 44], []⟩, ⟨some 12, none, .move (.tmp 45), []⟩]]) 
 (.seq 
 (.seq (.ops [.grp none [⟨some 46, none, .move (.tmp 11), []⟩, ⟨some 47, none, .move (.tmp 10), []⟩, ⟨some 48, none, .len (.tmp 47), []⟩, ⟨some 49, none, .move (.tmp 12), []⟩, ⟨some 50, none, .len (.tmp 49), []⟩, ⟨some 51, none, .bin .sub 3 (.tmp 48) (.tmp 50), []⟩, ⟨some 52, none, .bin .neq 3 (.tmp 46) (.tmp 51), []⟩]]) 
 (.cond (.tmp 52) 
 (.seq (.ops [.grp none [⟨some 6, none, .move (.const (.bool false)), []⟩]]) .ret) .skip)) 
 (.seq 
 (.seq (.ops [.grp none [⟨some 13, none, .move (.const (.int .i64 0)), []⟩]]) 
 (.block 0 
 (.loop 
 (.seq 
 (.seq (.ops [.grp none [⟨some 53, none, .move (.tmp 13), []⟩, ⟨some 54, none, .move (.tmp 12), []⟩, ⟨some 55, none, .len (.tmp 54), []⟩, ⟨some 56, none, .bin .lss 3 (.tmp 53) (.tmp 55), []⟩]]) 
 (.cond (.tmp 56) .skip (.exit 0))) 
 (.seq 
 (.block 1 
 (.seq (.ops [.grp none [⟨some 59, none, .faddr 3 (.tmp 5), []⟩, ⟨some 60, none, .load none (.tmp 59), []⟩, ⟨some 61, none, .bin .gtr 3 (.tmp 60) (.const (.int .i64 0)), []⟩, ⟨some 62, none, .move (.tmp 61), []⟩],
  .grp (some (some 62, true)) [⟨some 63, none, .move (.tmp 12), []⟩, ⟨some 64, none, .move (.tmp 13), []⟩, ⟨some 65, none, .iaddr 5 (.tmp 63) (.tmp 64), []⟩, ⟨some 66, none, .faddr 0 (.tmp 65), []⟩, ⟨some 67, none, .load none (.tmp 66), []⟩, ⟨some 68, none, .faddr 1 (.tmp 5), []⟩, ⟨some 69, none, .load none (.tmp 68), []⟩, ⟨some 70, none, .bin .eql 3 (.tmp 67) (.tmp 69), []⟩],
  .grp none [⟨some 71, none, .pick (.tmp 62) (.tmp 70) (.const (.bool false)), []⟩, ⟨some 72, none, .move (.tmp 71), []⟩],
  .grp (some (some 72, true)) [⟨some 73, none, .move (.tmp 12), []⟩, ⟨some 74, none, .move (.tmp 13), []⟩, ⟨some 75, none, .iaddr 5 (.tmp 73) (.tmp 74), []⟩, ⟨some 76, none, .faddr 1 (.tmp 75), []⟩, ⟨some 77, none, .load none (.tmp 76), []⟩, ⟨some 78, none, .faddr 2 (.tmp 5), []⟩, ⟨some 79, none, .load none (.tmp 78), []⟩, ⟨some 80, none, .bin .geq 3 (.tmp 77) (.tmp 79), []⟩],
  .grp none [⟨some 81, none, .pick (.tmp 72) (.tmp 80) (.const (.bool false)), []⟩, ⟨some 82, none, .move (.tmp 81), []⟩],
  .grp (some (some 82, true)) [⟨some 83, none, .faddr 2 (.tmp 5), []⟩, ⟨some 84, none, .load none (.tmp 83), []⟩, ⟨some 85, none, .bin .geq 3 (.tmp 84) (.const (.int .i64 0)), []⟩],
  .grp none [⟨some 86, none, .pick (.tmp 82) (.tmp 85) (.const (.bool false)), []⟩, ⟨some 87, none, .move (.tmp 86), []⟩],
  .grp (some (some 87, true)) [⟨some 88, none, .move (.tmp 12), []⟩, ⟨some 89, none, .move (.tmp 13), []⟩, ⟨some 90, none, .iaddr 5 (.tmp 88) (.tmp 89), []⟩, ⟨some 91, none, .faddr 1 (.tmp 90), []⟩, ⟨some 92, none, .load none (.tmp 91), []⟩, ⟨some 93, none, .faddr 2 (.tmp 5), []⟩, ⟨some 94, none, .load none (.tmp 93), []⟩, ⟨some 95, none, .bin .sub 3 (.tmp 92) (.tmp 94), []⟩, ⟨some 96, none, .faddr 3 (.tmp 5), []⟩, ⟨some 97, none, .load none (.tmp 96), []⟩, ⟨some 98, none, .bin .lss 3 (.tmp 95) (.tmp 97), []⟩],
  .grp none [⟨some 99, none, .pick (.tmp 87) (.tmp 98) (.const (.bool false)), []⟩]]) 
 (.cond (.tmp 99) 
 (.seq (.ops [.grp none [⟨some 6, none, .move (.const (.bool false)), []⟩]]) .ret) .skip))) (.ops [.grp none [⟨some 57, none, .move (.tmp 13), []⟩, ⟨some 58, none, .bin .add 3 (.tmp 57) (.const (.int .i64 1)), []⟩, ⟨some 13, none, .move (.tmp 58), []⟩]])))))) 
 (.seq (.ops [.grp none [⟨some 100, none, .move (.tmp 8), []⟩, ⟨some 101, none, .faddr 1 (.tmp 5), []⟩, ⟨some 102, none, .load none (.tmp 101), []⟩, ⟨some 103, none, .faddr 2 (.tmp 5), []⟩, ⟨some 104, none, .load none (.tmp 103), []⟩, ⟨some 105, none, .faddr 3 (.tmp 5), []⟩, ⟨some 106, none, .load none (.tmp 105), []⟩, ⟨some 107, none, .call 23 #[.tmp 100, .tmp 102, .tmp 104, .tmp 106], []⟩]]) 
 (.seq (.ops [.grp none [⟨some 108, none, .move (.tmp 12), []⟩, ⟨some 109, none, .move (.tmp 8), []⟩, ⟨some 110, none, .nonnil (.tmp 109), []⟩, ⟨some 111, none, .faddr 1 (.tmp 110), []⟩, ⟨some 112, none, .load none (.tmp 111), []⟩, ⟨some 113, none, .call 18 #[.tmp 108, .tmp 112], []⟩, ⟨some 6, none, .move (.tmp 113), []⟩]]) .ret)))))))))⟩
theorem low5 : lowG Try.prog 5 = some g5 := by kernel_rfl

def g6 : GFn :=
 ⟨152, [⟨6, none⟩], .seq (.ops [.grp none [⟨some 5, none, .box 31 (.tmp 2), []⟩, ⟨some 6, none, .move (.const (.bool false)), []⟩]]) 
 (.seq (.ops [.grp none [⟨some 19, none, .move (.tmp 0), []⟩, ⟨some 20, none, .bin .rem 5 (.tmp 19) (.const (.int .u8 64)), []⟩, ⟨some 21, none, .conv .i64 (.tmp 20), []⟩, ⟨some 22, none, .bin .add 3 (.tmp 21) (.const (.int .i64 1)), []⟩, ⟨some 23, none, .move (.tmp 1), []⟩, ⟨some 24, none, .call 14 #[.tmp 22, .tmp 23], []⟩, ⟨some 18, none, .move (.tmp 24), []⟩, ⟨some 25, none, .extract (.tmp 18) 0, []⟩, ⟨some 26, none, .extract (.tmp 18) 1, []⟩, ⟨some 27, none, .extract (.tmp 18) 2, []⟩, ⟨some 7, none, .move (.tmp 25), []⟩, ⟨some 8, none, .move (.tmp 26), []⟩, ⟨some 9, none, .move (.tmp 27), []⟩]]) 
 (.seq 
 (.seq (.ops [.grp none [⟨some 28, none, .move (.tmp 9), []⟩, ⟨some 29, none, .un .not (.tmp 28), []⟩, ⟨some 30, none, .move (.tmp 29), []⟩],
  .grp (some (some 30, false)) [⟨some 31, none, .move (.tmp 7), []⟩, ⟨some 32, none, .bin .eql 25 (.tmp 31) (.const (.pointer none)), []⟩],
  .grp none [⟨some 33, none, .pick (.tmp 30) (.const (.bool true)) (.tmp 32), []⟩, ⟨some 34, none, .move (.tmp 33), []⟩],
  .grp (some (some 34, false)) [⟨some 35, none, .call 15 #[], []⟩, ⟨some 36, none, .un .not (.tmp 35), []⟩],
  .grp none [⟨some 37, none, .pick (.tmp 34) (.const (.bool true)) (.tmp 36), []⟩]]) 
 (.cond (.tmp 37) 
 (.seq (.ops [.grp none [⟨some 6, none, .move (.const (.bool false)), []⟩]]) .ret) .skip)) 
 (.seq (.ops [.grp none [⟨some 38, none, .move (.tmp 7), []⟩, ⟨some 39, none, .call 19 #[.tmp 38], []⟩, ⟨some 10, none, .move (.tmp 39), []⟩]]) 
 (.seq 
 (.seq (.ops [.grp none [⟨some 40, none, .move (.tmp 7), []⟩, ⟨some 41, none, .load (some 5) (.tmp 5), []⟩, ⟨some 42, none, .call 24 #[.tmp 40, .tmp 41], []⟩, ⟨some 43, none, .bin .neq 47 (.tmp 42) (.const (.int .i64 0)), []⟩]]) 
 (.cond (.tmp 43) 
 (.seq (.ops [.grp none [⟨some 44, none, .load (some 5) (.tmp 5), []⟩, ⟨some 45, none, .call 21 #[.tmp 44], []⟩, ⟨some 46, none, .un .not (.tmp 45), []⟩, ⟨some 47, none, .move (.tmp 46), []⟩],
  .grp (some (some 47, true)) [⟨some 48, none, .move (.tmp 10), []⟩, ⟨some 49, none, .move (.tmp 7), []⟩, ⟨some 50, none, .call 19 #[.tmp 49], []⟩, ⟨some 51, none, .call 18 #[.tmp 48, .tmp 50], []⟩],
  .grp none [⟨some 52, none, .pick (.tmp 47) (.tmp 51) (.const (.bool false)), []⟩, ⟨some 6, none, .move (.tmp 52), []⟩]]) .ret) .skip)) 
 (.seq (.ops [.grp none [⟨some 53, none, .move (.tmp 7), []⟩, ⟨some 54, none, .call 19 #[.tmp 53], []⟩, ⟨some 11, none, .move (.tmp 54), []⟩]]) 
 (.seq (.ops [.grp none [⟨some 56, none, .move (.tmp 7), []⟩, ⟨some 57, none, .faddr 0 (.tmp 5), []⟩, ⟨some 58, none, .load none (.tmp 57), []⟩, ⟨some 59, none, .faddr 1 (.tmp 5), []⟩, ⟨some 60, none, .load none (.tmp 59), []⟩, ⟨some 61, none, .call 16 #[.tmp 56, .tmp 58, .tmp 60], []⟩, ⟨some 55, none, .move (.tmp 61), []⟩, ⟨some 62, none, .extract (.tmp 55) 0, []⟩, ⟨some 63, none, .extract (.tmp 55) 1, []⟩, ⟨some 12, none, .zero 31 #[.int .i64 0, .int .i64 0, .int .i64 0, .int .i64 0, .bool false], []⟩, ⟨none, none, .store 5 (.tmp 12) (.tmp 62), []⟩, ⟨some 13, none, .move (.tmp 63), []⟩]]) 
 (.seq 
 (.seq (.ops [.grp none [⟨some 64, none, .move (.tmp 13), []⟩, ⟨some 65, none, .un .not (.tmp 64), []⟩, ⟨some 66, none, .move (.tmp 65), []⟩],
  .grp (some (some 66, false)) [⟨some 67, none, .load (some 5) (.tmp 12), []⟩, ⟨some 68, none, .load (some 5) (.tmp 5), []⟩, ⟨some 69, none, .bin .neq 31 (.tmp 67) (.tmp 68), []⟩],
  .grp none [⟨some 70, none, .pick (.tmp 66) (.const (.bool true)) (.tmp 69), []⟩, ⟨some 71, none, .move (.tmp 70), []⟩],
  .grp (some (some 71, false)) [⟨some 72, none, .move (.tmp 11), []⟩, ⟨some 73, none, .move (.tmp 11), []⟩, ⟨some 74, none, .len (.tmp 73), []⟩, ⟨some 75, none, .bin .sub 3 (.tmp 74) (.const (.int .i64 1)), []⟩, ⟨some 76, none, .iaddr 5 (.tmp 72) (.tmp 75), []⟩, ⟨some 77, none, .load (some 5) (.tmp 76), []⟩, ⟨some 78, none, .load (some 5) (.tmp 5), []⟩, ⟨some 79, none, .bin .neq 31 (.tmp 77) (.tmp 78), []⟩],
  .grp none [⟨some 80, none, .pick (.tmp 71) (.const (.bool true)) (.tmp 79), []⟩]]) 
 (.cond (.tmp 80) 
 (.seq (.ops [.grp none [⟨some 6, none, .move (.const (.bool false)), []⟩]]) .ret) .skip)) 
 (.seq (.ops [.grp none [⟨some 14, none, .move (.const (.int .i64 0)), []⟩]]) 
 (.seq 
 (.seq (.ops [.grp none [⟨some 15, none, .move (.const (.int .i64 0)), []⟩]]) 
 (.block 0 
 (.loop 
 (.seq 
 (.seq (.ops [.grp none [⟨some 81, none, .move (.tmp 15), []⟩, ⟨some 82, none, .move (.tmp 10), []⟩, ⟨some 83, none, .len (.tmp 82), []⟩, ⟨some 84, none, .bin .lss 3 (.tmp 81) (.tmp 83), []⟩]]) 
 (.cond (.tmp 84) .skip (.exit 0))) 
 (.seq 
 (.block 1 
 (.seq (.ops [.grp none [⟨some 16, none, .move (.const (.bool false)), []⟩]]) 
 (.seq 
 (.seq (.ops [.grp none [⟨some 17, none, .move (.const (.int .i64 0)), []⟩]]) 
 (.block 2 
 (.loop 
 (.seq 
 (.seq (.ops [.grp none [⟨some 87, none, .move (.tmp 17), []⟩, ⟨some 88, none, .bin .add 3 (.tmp 87) (.const (.int .i64 1)), []⟩, ⟨some 89, none, .move (.tmp 11), []⟩, ⟨some 90, none, .len (.tmp 89), []⟩, ⟨some 91, none, .bin .lss 3 (.tmp 88) (.tmp 90), []⟩]]) 
 (.cond (.tmp 91) .skip (.exit 2))) 
 (.seq 
 (.block 3 (.ops [.grp none [⟨some 94, none, .move (.tmp 16), []⟩, ⟨some 95, none, .move (.tmp 94), []⟩],
  .grp (some (some 95, false)) [⟨some 96, none, .move (.tmp 11), []⟩, ⟨some 97, none, .move (.tmp 17), []⟩, ⟨some 98, none, .iaddr 5 (.tmp 96) (.tmp 97), []⟩, ⟨some 99, none, .load (some 5) (.tmp 98), []⟩, ⟨some 100, none, .move (.tmp 10), []⟩, ⟨some 101, none, .move (.tmp 15), []⟩, ⟨some 102, none, .iaddr 5 (.tmp 100) (.tmp 101), []⟩, ⟨some 103, none, .load (some 5) (.tmp 102), []⟩, ⟨some 104, none, .bin .eql 31 (.tmp 99) (.tmp 103), []⟩],
  .grp none [⟨some 105, none, .pick (.tmp 95) (.const (.bool true)) (.tmp 104), []⟩, ⟨some 16, none, .move (.tmp 105), []⟩]])) (.ops [.grp none [⟨some 92, none, .move (.tmp 17), []⟩, ⟨some 93, none, .bin .add 3 (.tmp 92) (.const (.int .i64 1)), []⟩, ⟨some 17, none, .move (.tmp 93), []⟩]])))))) 
 (.seq (.ops [.grp none [⟨some 106, none, .move (.tmp 16), []⟩, ⟨some 107, none, .un .not (.tmp 106), []⟩, ⟨some 108, none, .move (.tmp 107), []⟩],
  .grp (some (some 108, true)) [⟨some 109, none, .move (.tmp 10), []⟩, ⟨some 110, none, .move (.tmp 15), []⟩, ⟨some 111, none, .iaddr 5 (.tmp 109) (.tmp 110), []⟩, ⟨some 112, none, .load (some 5) (.tmp 111), []⟩, ⟨some 113, none, .faddr 0 (.tmp 5), []⟩, ⟨some 114, none, .load none (.tmp 113), []⟩, ⟨some 115, none, .faddr 1 (.tmp 5), []⟩, ⟨some 116, none, .load none (.tmp 115), []⟩, ⟨some 117, none, .call 20 #[.tmp 112, .tmp 114, .tmp 116], []⟩, ⟨some 118, none, .un .not (.tmp 117), []⟩],
  .grp none [⟨some 119, none, .pick (.tmp 108) (.tmp 118) (.const (.bool false)), []⟩, ⟨some 120, none, .move (.tmp 119), []⟩],
  .grp (some (some 120, true)) [⟨some 121, none, .load (some 5) (.tmp 5), []⟩, ⟨some 122, none, .move (.tmp 10), []⟩, ⟨some 123, none, .move (.tmp 15), []⟩, ⟨some 124, none, .iaddr 5 (.tmp 122) (.tmp 123), []⟩, ⟨some 125, none, .faddr 0 (.tmp 124), []⟩, ⟨some 126, none, .load none (.tmp 125), []⟩, ⟨some 127, none, .move (.tmp 10), []⟩, ⟨some 128, none, .move (.tmp 15), []⟩, ⟨some 129, none, .iaddr 5 (.tmp 127) (.tmp 128), []⟩, ⟨some 130, none, .faddr 1 (.tmp 129), []⟩, ⟨some 131, none, .load none (.tmp 130), []⟩, ⟨some 132, none, .call 20 #[.tmp 121, .tmp 126, .tmp 131], []⟩, ⟨some 133, none, .un .not (.tmp 132), []⟩],
  .grp none [⟨some 134, none, .pick (.tmp 120) (.tmp 133) (.const (.bool false)), []⟩]]) 
 (.cond (.tmp 134) (.ops [.grp none [⟨some 135, none, .move (.tmp 14), []⟩, ⟨some 136, none, .bin .add 3 (.tmp 135) (.const (.int .i64 1)), []⟩, ⟨some 14, none, .move (.tmp 136), []⟩]]) .skip))))) (.ops [.grp none [⟨some 85, none, .move (.tmp 15), []⟩, ⟨some 86, none, .bin .add 3 (.tmp 85) (.const (.int .i64 1)), []⟩, ⟨some 15, none, .move (.tmp 86), []⟩]])))))) 
 (.seq (.ops [.grp none [⟨some 137, none, .move (.tmp 14), []⟩, ⟨some 138, none, .bin .leq 3 (.tmp 137) (.const (.int .i64 1)), []⟩, ⟨some 139, none, .move (.tmp 138), []⟩],
  .grp (some (some 139, true)) [⟨some 140, none, .move (.tmp 14), []⟩, ⟨some 141, none, .bin .eql 3 (.tmp 140) (.const (.int .i64 0)), []⟩, ⟨some 142, none, .move (.tmp 141), []⟩],
  .grp (some (some 142, false)) [⟨some 143, none, .move (.tmp 10), []⟩, ⟨some 144, none, .len (.tmp 143), []⟩, ⟨some 145, none, .move (.tmp 0), []⟩, ⟨some 146, none, .bin .rem 5 (.tmp 145) (.const (.int .u8 64)), []⟩, ⟨some 147, none, .conv .i64 (.tmp 146), []⟩, ⟨some 148, none, .bin .add 3 (.tmp 147) (.const (.int .i64 1)), []⟩, ⟨some 149, none, .bin .eql 3 (.tmp 144) (.tmp 148), []⟩],
  .grp (some (some 139, true)) [⟨some 150, none, .pick (.tmp 142) (.const (.bool true)) (.tmp 149), []⟩],
  .grp none [⟨some 151, none, .pick (.tmp 139) (.tmp 150) (.const (.bool false)), []⟩, ⟨some 6, none, .move (.tmp 151), []⟩]]) .ret))))))))))⟩
theorem low6 : lowG Try.prog 6 = some g6 := by kernel_rfl

def t8 : GC :=
 (.seq (.ops [.grp none [⟨some 58, none, .move (.tmp 7), []⟩, ⟨some 59, none, .call 19 #[.tmp 58], []⟩, ⟨some 12, none, .move (.tmp 59), []⟩]]) 
 (.seq (.ops [.grp none [⟨some 13, none, .move (.const (.bool false)), []⟩]]) 
 (.seq 
 (.seq (.ops [.grp none [⟨some 14, none, .move (.const (.int .i64 0)), []⟩]]) 
 (.block 0 
 (.loop 
 (.seq 
 (.seq (.ops [.grp none [⟨some 60, none, .move (.tmp 14), []⟩, ⟨some 61, none, .move (.tmp 12), []⟩, ⟨some 62, none, .len (.tmp 61), []⟩, ⟨some 63, none, .bin .lss 3 (.tmp 60) (.tmp 62), []⟩]]) 
 (.cond (.tmp 63) .skip (.exit 0))) 
 (.seq 
 (.block 1 (.ops [.grp none [⟨some 66, none, .move (.tmp 13), []⟩, ⟨some 67, none, .move (.tmp 66), []⟩],
  .grp (some (some 67, false)) [⟨some 68, none, .move (.tmp 12), []⟩, ⟨some 69, none, .move (.tmp 14), []⟩, ⟨some 70, none, .iaddr 5 (.tmp 68) (.tmp 69), []⟩, ⟨some 71, none, .load (some 5) (.tmp 70), []⟩, ⟨some 72, none, .move (.tmp 5), []⟩, ⟨some 73, none, .move (.tmp 6), []⟩, ⟨some 74, none, .call 20 #[.tmp 71, .tmp 72, .tmp 73], []⟩],
  .grp none [⟨some 75, none, .pick (.tmp 67) (.const (.bool true)) (.tmp 74), []⟩, ⟨some 13, none, .move (.tmp 75), []⟩]])) (.ops [.grp none [⟨some 64, none, .move (.tmp 14), []⟩, ⟨some 65, none, .bin .add 3 (.tmp 64) (.const (.int .i64 1)), []⟩, ⟨some 14, none, .move (.tmp 65), []⟩]])))))) 
 (.seq (.ops [.grp none [⟨some 76, none, .move (.tmp 11), []⟩, ⟨some 77, none, .move (.tmp 13), []⟩, ⟨some 78, none, .bin .eql 4 (.tmp 76) (.tmp 77), []⟩, ⟨some 79, none, .move (.tmp 78), []⟩],
  .grp (some (some 79, true)) [⟨some 80, none, .move (.tmp 7), []⟩, ⟨some 81, none, .move (.tmp 5), []⟩, ⟨some 82, none, .move (.tmp 6), []⟩, ⟨some 83, none, .call 22 #[.tmp 80, .tmp 81, .tmp 82, .const (.int .i64 1)], []⟩, ⟨some 84, none, .move (.tmp 12), []⟩, ⟨some 85, none, .len (.tmp 84), []⟩, ⟨some 86, none, .move (.tmp 7), []⟩, ⟨some 87, none, .call 19 #[.tmp 86], []⟩, ⟨some 88, none, .len (.tmp 87), []⟩, ⟨some 89, none, .bin .sub 3 (.tmp 85) (.tmp 88), []⟩, ⟨some 90, none, .bin .eql 3 (.tmp 83) (.tmp 89), []⟩],
  .grp none [⟨some 91, none, .pick (.tmp 79) (.tmp 90) (.const (.bool false)), []⟩, ⟨some 2, none, .move (.tmp 91), []⟩]]) .ret))))
def g8 : GFn :=
 ⟨92, [⟨2, none⟩], .seq (.ops [.grp none [⟨some 1, none, .box 54 (.tmp 0), []⟩, ⟨some 2, none, .move (.const (.bool false)), []⟩]]) 
 (.seq (.ops [.grp none [⟨some 15, none, .faddr 0 (.tmp 1), []⟩, ⟨some 16, none, .load none (.tmp 15), []⟩, ⟨some 17, none, .faddr 1 (.tmp 1), []⟩, ⟨some 18, none, .load none (.tmp 17), []⟩, ⟨some 19, none, .faddr 2 (.tmp 1), []⟩, ⟨some 20, none, .load none (.tmp 19), []⟩, ⟨some 21, none, .faddr 3 (.tmp 1), []⟩, ⟨some 22, none, .load none (.tmp 21), []⟩, ⟨some 3, none, .move (.tmp 16), []⟩, ⟨some 4, none, .move (.tmp 18), []⟩, ⟨some 5, none, .move (.tmp 20), []⟩, ⟨some 6, none, .move (.tmp 22), []⟩]]) 
 (.seq (.ops [.grp none [⟨some 24, none, .move (.tmp 3), []⟩, ⟨some 25, none, .bin .rem 5 (.tmp 24) (.const (.int .u8 64)), []⟩, ⟨some 26, none, .conv .i64 (.tmp 25), []⟩, ⟨some 27, none, .bin .add 3 (.tmp 26) (.const (.int .i64 1)), []⟩, ⟨some 28, none, .move (.tmp 4), []⟩, ⟨some 29, none, .call 14 #[.tmp 27, .tmp 28], []⟩, ⟨some 23, none, .move (.tmp 29), []⟩, ⟨some 30, none, .extract (.tmp 23) 0, []⟩, ⟨some 31, none, .extract (.tmp 23) 1, []⟩, ⟨some 32, none, .extract (.tmp 23) 2, []⟩, ⟨some 7, none, .move (.tmp 30), []⟩, ⟨some 8, none, .move (.tmp 31), []⟩, ⟨some 9, none, .move (.tmp 32), []⟩]]) 
 (.seq 
 (.seq (.ops [.grp none [⟨some 33, none, .move (.tmp 9), []⟩, ⟨some 34, none, .un .not (.tmp 33), []⟩, ⟨some 35, none, .move (.tmp 34), []⟩],
  .grp (some (some 35, false)) [⟨some 36, none, .move (.tmp 7), []⟩, ⟨some 37, none, .bin .eql 25 (.tmp 36) (.const (.pointer none)), []⟩],
  .grp none [⟨some 38, none, .pick (.tmp 35) (.const (.bool true)) (.tmp 37), []⟩, ⟨some 39, none, .move (.tmp 38), []⟩],
  .grp (some (some 39, false)) [⟨some 40, none, .call 15 #[], []⟩, ⟨some 41, none, .un .not (.tmp 40), []⟩],
  .grp none [⟨some 42, none, .pick (.tmp 39) (.const (.bool true)) (.tmp 41), []⟩]]) 
 (.cond (.tmp 42) 
 (.seq (.ops [.grp none [⟨some 2, none, .move (.const (.bool false)), []⟩]]) .ret) .skip)) 
 (.seq (.ops [.grp none [⟨some 44, none, .move (.tmp 7), []⟩, ⟨some 45, none, .move (.tmp 5), []⟩, ⟨some 46, none, .move (.tmp 6), []⟩, ⟨some 47, none, .call 16 #[.tmp 44, .tmp 45, .tmp 46], []⟩, ⟨some 43, none, .move (.tmp 47), []⟩, ⟨some 48, none, .extract (.tmp 43) 0, []⟩, ⟨some 49, none, .extract (.tmp 43) 1, []⟩, ⟨some 10, none, .zero 31 #[.int .i64 0, .int .i64 0, .int .i64 0, .int .i64 0, .bool false], []⟩, ⟨none, none, .store 5 (.tmp 10) (.tmp 48), []⟩, ⟨some 11, none, .move (.tmp 49), []⟩]]) 
 (.seq 
 (.seq (.ops [.grp none [⟨some 50, none, .move (.tmp 11), []⟩, ⟨some 51, none, .move (.tmp 50), []⟩],
  .grp (some (some 51, true)) [⟨some 52, none, .load (some 5) (.tmp 10), []⟩, ⟨some 53, none, .move (.tmp 5), []⟩, ⟨some 54, none, .move (.tmp 6), []⟩, ⟨some 55, none, .call 20 #[.tmp 52, .tmp 53, .tmp 54], []⟩, ⟨some 56, none, .un .not (.tmp 55), []⟩],
  .grp none [⟨some 57, none, .pick (.tmp 51) (.tmp 56) (.const (.bool false)), []⟩]]) 
 (.cond (.tmp 57) 
 (.seq (.ops [.grp none [⟨some 2, none, .move (.const (.bool false)), []⟩]]) .ret) .skip)) 
 t8)))))⟩
theorem low8 : lowG Try.prog 8 = some g8 := by kernel_rfl

def ga47 : GC := .ops [.grp none [⟨some 10, none, .move (.tmp 20), []⟩]]
def gb47 : GC := .block 1 (.ops [.grp none [⟨some 22, none, .load none (.tmp 9), []⟩, ⟨some 23, none, .move (.tmp 10), []⟩, ⟨none, none, .update .i64 (.tmp 22) (.tmp 23) (.const (.int .i64 1)), []⟩]])
theorem lowR47 : lowRange Try.prog 47 = (49, ga47, gb47) := by kernel_rfl

def ga16 : GC := .ops [.grp none [⟨some 9, none, .zero 31 #[.int .i64 0, .int .i64 0, .int .i64 0, .int .i64 0, .bool false], []⟩, ⟨none, none, .store 5 (.tmp 9) (.tmp 26), []⟩]]
def gb16 : GC := .block 1 (.seq (.ops [.grp none [⟨some 27, none, .load (some 5) (.tmp 9), []⟩, ⟨none, none, .store 5 (.tmp 6) (.tmp 27), []⟩, ⟨none, none, .store 1 (.tmp 7) (.const (.bool true)), []⟩]]) .ret)
theorem lowR16 : lowRange Try.prog 16 = (29, ga16, gb16) := by kernel_rfl
end Go.Proofs.Ytplcocifndpplaa
