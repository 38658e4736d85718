/-
  PolicyWaits: its closed parts, run.
-/
import Derived.Test.YteljibbnpheekaaGreatNa
import Derived.Test.YteljibbnpheekaaGreatNwa
import Derived.Test.YteljibbnpheekaaGreatHk
namespace Go.Proofs.YteljibbnpheekaaGreat
open Go Go.Ideal Go.Ideal.W Go.Proofs

noncomputable def gtabPW : GTab := (Tr.ofL (appR glPW0 (appR gl20 (appR gl21 (appR gl22 (appR gl23 (appR gl24 gl25))))))).get
theorem gtabPW_ok : GOk Tryz.prog gtabPW := .of (.app glPW0_ok (.app gl20_ok (.app gl21_ok (.app gl22_ok (.app gl23_ok (.app gl24_ok gl25_ok))))))
noncomputable def KW : FKont := frun Tryz.prog gtabPW (yesF 11) 400
noncomputable def mMade : Memo := ⟨10, [(.agg #[(n 16), (n 0), (n 4), (n 1), (n 0)])], 0, [], (p 43 0), 44, [(8, cl 225 [(p 10 0), (p 7 0), (p 12 0), (n 0)]), (11, cl 3 [(n 0), (n 0), (n 0), (n 0), (n 0), (n 0), (n 0), (n 0), (n 0), (n 0), (n 0), (n 0), (n 0), (n 0), (n 0), (n 0)]), (12, cl 417 [(sl 11 0 16 16), (n 16), (n 0), (n 0), (n 0), (n 0), (n 0)]), (27, cl 268 [(.slice none 0 0)]), (31, cl 143 [(n 16), (p 8 0), (p 33 0), (p 14 0), (p 34 0), (p 23 0), (p 26 0), (p 27 0), (p 28 0), (p 29 0), (p 35 0), (m 38), (m 30), (.slice none 0 0), (n 0), (n 0)]), (42, cl 114 [(p 31 0), (n 0), (n 16), (m 41), (n 0), (n 0), (n 0), (n 0), (n 0), (n 0), (n 0), (n 0), (n 0), (n 0), (n 0), (n 0), (n 0), (n 0), (n 0), (n 0), (n 0), (n 0), (n 0), (n 0), (n 0), (n 0), (n 0)]), (43, cl 31 [(p 40 0), (p 42 0)])]⟩
theorem mMade_ran : mMade.ran KW := (by kernel_rfl : (_ : Bool) = true)
noncomputable def fwMade : FW := ⟨mMade.n', Tr.ofL mMade.l'⟩
/-- Behind the numbers. -/
def rest3 : GC := sq (og [mv 5 (i 2)]) (sq (sq (og [mv 6 (i 0)]) (.block 0 (.loop (sq (sq (og [mv 20 (t 6), e 21 (.bin .lss 3 (t 20) (i 8))]) (.cond (t 21) .skip (.exit 0))) (sq (.block 1 (sq (sq (.ops [gr [mv 24 (t 3), nn 25 (t 24), fa 26 1 (t 25), ld 27 (t 26), mv 28 (t 4), e 29 (.call 12 #[t 27, t 28]), e 30 (.bin .neq 27 (t 29) (i 6)), mv 31 (t 30)], .grp (some ((some 31), false)) [mv 32 (t 3), nn 33 (t 32), fa 34 1 (t 33), ld 35 (t 34), mv 36 (t 4), e 37 (.call 13 #[t 35, t 36]), mv 38 (t 5), e 39 (.bin .neq 3 (t 37) (t 38))], gr [e 40 (.pick (t 31) (.const (.bool true)) (t 39))]]) (.cond (t 40) (sq (og [mv 2 (.const (.bool false))]) .ret) .skip)) (sq (sq (og [mv 7 (i 0)]) (.block 2 (.loop (sq (sq (og [mv 41 (t 7), mv 42 (t 5), e 43 (.bin .lss 3 (t 41) (t 42))]) (.cond (t 43) .skip (.exit 2))) (sq (.block 3 (sq (og [mv 46 (t 3), nn 47 (t 46), fa 48 1 (t 47), ld 49 (t 48), mv 50 (t 4), e 51 (.call 12 #[t 49, t 50]), e 52 (.bin .neq 27 (t 51) (i 13))]) (.cond (t 52) (sq (og [mv 2 (.const (.bool false))]) .ret) .skip))) (og [mv 44 (t 7), e 45 (.bin .add 3 (t 44) (i 1)), mv 7 (t 45)])))))) (og [mv 53 (t 5), e 54 (.bin .mul 3 (i 2) (t 53)), e 55 (.raw (.call ⟨.builtin .min, #[t 54, i 64], #[3, 3]⟩) 3), mv 5 (t 55)])))) (og [mv 22 (t 6), e 23 (.bin .add 3 (t 22) (i 1)), mv 6 (t 23)])))))) (sq (.ops [gr [mv 56 (t 3), nn 57 (t 56), fa 58 1 (t 57), ld 59 (t 58), e 60 (.call 13 #[t 59, i 3]), e 61 (.bin .eql 3 (t 60) (i 0)), mv 62 (t 61)], .grp (some ((some 62), true)) [mv 63 (t 3), nn 64 (t 63), fa 65 1 (t 64), ld 66 (t 65), e 67 (.call 12 #[t 66, i 3]), e 68 (.bin .eql 27 (t 67) (i 0))], gr [e 69 (.pick (t 62) (t 68) (.const (.bool false))), mv 70 (t 69)], .grp (some ((some 70), true)) [mv 71 (t 3), nn 72 (t 71), fa 73 1 (t 72), ld 74 (t 73), e 75 (.call 13 #[t 74, i 9]), e 76 (.bin .eql 3 (t 75) (i 0))], gr [e 77 (.pick (t 70) (t 76) (.const (.bool false))), mv 2 (t 77)]]) .ret))
def h3 : GFn := ⟨78, [⟨2, none⟩], sq (og [mv 2 (.const (.bool false))]) (sq (og [e 8 (.build #[(0, 1), (1, 1), (2, 1), (3, 1), (4, 1)] #[.int .i64 0, .int .i64 0, .int .i64 0, .int .i64 0, .int .i64 0] [(0, .const (.int .i64 16)), (2, .const (.int .i64 4)), (3, .const (.int .i64 1))]), e 9 (.call 10 #[.tmp 8]), mv 3 (.tmp 9)]) (sq (sq (.ops [gr [mv 10 (.tmp 3), e 11 (.bin .eql 22 (.tmp 10) (.const (.pointer none))), mv 12 (.tmp 11)], .grp (some ((some 12), false)) [e 13 (.call 11 #[]), e 14 (.un .not (.tmp 13))], gr [e 15 (.pick (.tmp 12) (.const (.bool true)) (.tmp 14))]]) (.cond (.tmp 15) (sq (og [mv 2 (.const (.bool false))]) .ret) .skip)) (sq (og [mv 16 (.tmp 0), e 17 (.bin .rem 5 (.tmp 16) (.const (.int .u8 4))), e 18 (.conv .i64 (.tmp 17)), e 19 (.bin .add 3 (.const (.int .i64 5)) (.tmp 18)), mv 4 (.tmp 19)]) rest3)))⟩
theorem lw3 : lowG Tryz.prog 3 = some h3 := by kernel_rfl
noncomputable def goodR (r : FRes) : Bool := match r.1 with
  | .ret => match r.2.2.1, r.2.1.get 2 with
    | [], some (.bool b) => b
    | _, _ => false
  | _ => false
/-- The registers ahead of it. -/
noncomputable def regs3 (o x y : Value) (k : Nat) : Tr Value := [(0, o), (2, bf), (8, .agg #[n 16, n 0, n 4, n 1, n 0]), (9, p 43 0), (3, p 43 0), (10, p 43 0), (11, bf), (12, bf), (13, bt), (14, bf), (15, bf), (16, o), (17, x), (18, y), (19, n k), (4, n k)].foldr (fun q h => h.set q.1 q.2) .lf
theorem tail3_5 (o x y : Value) : (fgc Tryz.prog KW 401 true 3 78 rest3 (regs3 o x y 5) [] fwMade).allB goodR = true := by kernel_rfl
theorem tail3_6 (o x y : Value) : (fgc Tryz.prog KW 401 true 3 78 rest3 (regs3 o x y 6) [] fwMade).allB goodR = true := by kernel_rfl
theorem tail3_7 (o x y : Value) : (fgc Tryz.prog KW 401 true 3 78 rest3 (regs3 o x y 7) [] fwMade).allB goodR = true := by kernel_rfl
theorem tail3_8 (o x y : Value) : (fgc Tryz.prog KW 401 true 3 78 rest3 (regs3 o x y 8) [] fwMade).allB goodR = true := by kernel_rfl
end Go.Proofs.YteljibbnpheekaaGreat
