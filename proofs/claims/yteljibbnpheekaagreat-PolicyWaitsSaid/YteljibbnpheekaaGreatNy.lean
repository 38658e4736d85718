/-
  PolicyWaits: the walk.
-/
import Derived.Test.YteljibbnpheekaaGreatNx
import Derived.Test.YteljibbnpheekaaGreatMaz
import Derived.Test.YteljibbnpheekaaGreatJt
namespace Go.Proofs.YteljibbnpheekaaGreat
open Go Go.Ideal Go.Ideal.W Go.Proofs

theorem KW_ok : KOk KW (runH Tryz.prog (yesH 11) 400) := by
  unfold KW
  generalize 400 = m
  exact frun_ok gtabPW_ok (yes_fh 11) m
theorem awakeW (m : Nat) (hm : m ≠ 0) (w : World) : ((runH Tryz.prog (yesH 11) m).enter 11 #[] w).all fun x => x.1 = .bool true ∧ x.2 = w := by
  cases m with
  | zero => exact absurd rfl hm
  | succ m => simp [runH, yesH]
abbrev w00 : World := { (default : World) with heap := #[] }
theorem good_of {Kt : Kont} {FK : FKont} (hK : KOk FK Kt) {m : Memo} (hr : m.ran FK) {w : World} (hs : SimW ⟨m.n, Tr.ofL m.l⟩ w) : (Kt.enter m.f ⟨m.args⟩ w).all fun x => x.1 = m.v ∧ SimW ⟨m.n', Tr.ofL m.l'⟩ x.2 := by
  unfold Memo.ran at hr
  refine hK.enter _ _ _ _ _ hs (T.all_of_allB (fun r hr w' hs' => ?_) hr)
  obtain ⟨b1, b2⟩ := andR_true hr
  obtain ⟨b3, b4⟩ := andR_true b2
  have e3 := eqV_eq b1
  exact ⟨e3.symm, hs'.less b3 b4⟩
theorem made3 {K : Kont} (hK : KOk KW K) : (K.enter 10 #[.agg #[.int .i64 16, .int .i64 0, .int .i64 4, .int .i64 1, .int .i64 0]] w00).all fun x => x.1 = .pointer (some ⟨43, 0, none⟩) ∧ SimW fwMade x.2 := by
  exact good_of hK mMade_ran ⟨rfl, fun b fo h => by cases h⟩
theorem good_post {fn : FuncId} {r : FRes} (h : goodR r = true) : UpS (fun e ρ ds w => (e = .normal ∨ e = .ret) ∧ wpFin Tryz.prog ds w fun w => wpRes h3.res ρ w fun v => v = .bool true) r := by
  intro w hs
  obtain ⟨e, ρ, ds, fw⟩ := r
  unfold goodR at h
  split at h
  · rename_i he
    simp only at he
    subst he
    split at h
    · rename_i b hd hb
      simp only at hd hb
      subst hd
      subst h
      refine ⟨.inr rfl, ?_⟩
      have h2 : fget ρ 2 = .bool true := by rw [fget_eq, hb]; rfl
      simp [dsOf, h3, wpFin, wpRes, h2]
    · cases h
  · cases h
theorem nil22 {o1 o2 : Operand} {p : Option Addr} {w : World} : binS Tryz.prog .eql 22 o1 o2 (.pointer p) (.pointer none) w = .ret (.bool p.isNone, w) := nilEq (by kernel_rfl) (by kernel_rfl)
set_option maxRecDepth 10000 in
theorem run3 {K : Kont} (hK : KOk KW K) (hA : ∀ w, (K.enter 11 #[] w).all fun x => x.1 = .bool true ∧ x.2 = w) (o : Int) (h0 : 0 ≤ o) (h1 : o < 256) : wpGFn Tryz.prog K 401 3 h3 #[.int .u8 o] w00 fun z _ => z = .bool true := by
  rw [gfn_start]
  simp -implicitDefEqProofs [h3, W.e, W.e0, W.mv, W.sq, W.og, W.gr, W.fa, W.ld]
  have hfill : fillS #[(0, 1), (1, 1), (2, 1), (3, 1), (4, 1)] #[Value.int IntKind.i64 0, Value.int IntKind.i64 0, Value.int IntKind.i64 0, Value.int IntKind.i64 0, Value.int IntKind.i64 0] [(0, Value.int IntKind.i64 16), (2, Value.int IntKind.i64 4), (3, Value.int IntKind.i64 1)] w00
    = .ret (.agg #[.int .i64 16, .int .i64 0, .int .i64 4, .int .i64 1, .int .i64 0], w00) := by kernel_rfl
  rw [hfill]
  simp -implicitDefEqProofs
  refine valA_of (made3 hK) (fun v1 w1 q1 => ?_)
  obtain ⟨hv1, hs1⟩ := q1
  simp only at hv1 hs1
  subst hv1
  simp -implicitDefEqProofs [nil22]
  refine valA_of (hA _) (fun v3 w3 q3 => ?_)
  obtain ⟨hv3, hw3⟩ := q3
  simp only at hv3 hw3
  subst hv3 hw3
  simp -implicitDefEqProofs
  have hk : IntKind.i64.wrap (5 + IntKind.i64.wrap (o.tmod 4)) = 5 + o % 4 := by
    rw [Int.tmod_eq_emod_of_nonneg h0]
    have : IntKind.i64.wrap (o % 4) = o % 4 := by rw [IntKind.wrap_i64]; omega
    rw [this, IntKind.wrap_i64]; omega
  rw [hk]
  generalize IntKind.i64.wrap (o.tmod 4) = y
  generalize o.tmod 4 = x
  obtain ⟨k, hk5, hk8, hko⟩ : ∃ k : Nat, 5 ≤ k ∧ k ≤ 8 ∧ 5 + o % 4 = (k : Int) := ⟨(5 + o % 4).toNat, by omega, by omega, by omega⟩
  rw [hko]
  rw [← code_start]
  have henv : ((((((((((((((((((Env.of #[Value.int IntKind.u8 o]).put (some 2) (Value.bool false)).put (some 8) (Value.agg #[Value.int IntKind.i64 16, Value.int IntKind.i64 0, Value.int IntKind.i64 4, Value.int IntKind.i64 1, Value.int IntKind.i64 0])).put
    (some 9) (Value.pointer (some { block := 43, off := 0 }))).put (some 3) (Value.pointer (some { block := 43, off := 0 }))).put (some 10) (Value.pointer (some { block := 43, off := 0 }))).put (some 11) (Value.bool false)).put (some 12) (Value.bool false)).put (some 12) (Value.bool false)).put
    (some 13) (Value.bool true)).put (some 14) (Value.bool false)).put (some 15) (Value.bool false)).put (some 16) (Value.int IntKind.u8 o)).put (some 17) (Value.int IntKind.u8 x)).put (some 18) (Value.int IntKind.i64 y)).put (some 19) (Value.int IntKind.i64 (k : Int))).put (some 4) (Value.int IntKind.i64 (k : Int))) : Env)
    = fget (regs3 (.int .u8 o) (.int .u8 x) (.int .i64 y) k) := by
    funext i
    simp only [regs3, List.foldr, fget_set]
    match i with
    | 0 | 1 | 2 | 3 | 4 | 5 | 6 | 7 | 8 | 9 | 10 | 11 | 12 | 13 | 14 | 15 | 16 | 17 | 18 | 19 => rfl
    | i + 20 => simp [Env.put, Env.of, fget, Tr.get_lf]
  rw [henv]
  have hgo : (fgc Tryz.prog KW 401 true 3 78 rest3 (regs3 (.int .u8 o) (.int .u8 x) (.int .i64 y) k) [] fwMade).allB goodR = true := by
    rcases (show k = 5 ∨ k = 6 ∨ k = 7 ∨ k = 8 by omega) with rfl | rfl | rfl | rfl
    · exact tail3_5 _ _ _
    · exact tail3_6 _ _ _
    · exact tail3_7 _ _ _
    · exact tail3_8 _ _ _
  exact fgc_ok (ro := none) (ds := []) hK hs1 (T.all_of_allB (fun r hr => good_post (fn := 3) hr) hgo)
set_option maxRecDepth 100000 in
theorem ranW' {m k : Nat} (hm : k = m + 1) {args : Array Value} {w : World} (h : wpGFn Tryz.prog (runH Tryz.prog (yesH 11) m) k 3 h3 args w fun z _ => z = .bool true) : ∃ m, ((runH Tryz.prog (yesH 11) m).enter 3 args w).all fun x => x.1 = .bool true := by
  subst hm
  exact ⟨m + 1, enter_okH (m := m) lw3 (yes_ne (by decide)) h⟩
theorem ranW {m : Nat} (hK : KOk KW (runH Tryz.prog (yesH 11) m)) (hm : 401 = m + 1) (o : Int) (h0 : 0 ≤ o) (h1 : o < 256) : ∃ m, ((runH Tryz.prog (yesH 11) m).enter 3 #[.int .u8 o] w00).all fun x => x.1 = .bool true :=
  ranW' hm (run3 hK (awakeW m (by omega)) o h0 h1)
set_option maxRecDepth 100000 in
theorem ran3 (o : Int) (h0 : 0 ≤ o) (h1 : o < 256) : ∃ m, ((runH Tryz.prog (yesH 11) m).enter 3 #[.int .u8 o] w00).all fun x => x.1 = .bool true := by
  obtain ⟨m, hm, hK⟩ : ∃ m, 401 = m + 1 ∧ KOk KW (runH Tryz.prog (yesH 11) m) := ⟨400, by decide, KW_ok⟩
  exact ranW hK hm o h0 h1
end Go.Proofs.YteljibbnpheekaaGreat
