/-
  AuditNone: whatever the argument, the statement answers true, and it reads behind the call as it read before. No condition.
-/
import Derived.Test.YteljibbnpheekaaGreatWx
import Derived.Test.YteljibbnpheekaaGreatMx28z
import Derived.Test.YteljibbnpheekaaGreatEe
import Derived.Test.YteljibbnpheekaaGreatF9b
import Derived.Test.YteljibbnpheekaaGreatF9c
namespace Go.Proofs.YteljibbnpheekaaGreat
open Go Go.Ideal Go.ChangeShapes Go.WideShapes Go.ChangeAt Go.RowKit
set_option maxRecDepth 100000 in
theorem params9_ok : ∀ t ∈ Tryz.f9.params.toList, Tryz.prog.readableRec t = true ∧ t < Tryz.prog.types.size := by
  rw [Tryz.params9]
  intro t ht
  simp only [List.mem_cons, List.not_mem_nil, or_false] at ht
  subst ht
  exact ⟨by kernel_rfl, of_decide_eq_true (by kernel_rfl)⟩
theorem cellsOf25 : Tryz.prog.cellsOf 25 = 5 := by kernel_rfl
theorem cellTypes25 : Tryz.prog.cellTypes Tryz.prog.depth 25 = some [3, 3, 3, 3, 3] := by kernel_rfl
theorem open5 {α : Type} {cs : Array α} (h : cs.size = 5) : ∃ a b c d e, cs = #[a, b, c, d, e] := by
  obtain ⟨l⟩ := cs
  match l, h with
  | [a, b, c, d, e], _ => exact ⟨a, b, c, d, e, rfl⟩
set_option maxRecDepth 100000 in
theorem arg25 {W : World} {base : Nat} {v : Value} (h : Value.okWide Tryz.prog W .any base 25 v) : ∃ u : Sup, v = u.v := by
  unfold Value.okWide at h
  rw [Tryz.underlying25] at h
  obtain ⟨cs, rfl, hsz, ts, hts, _, hc⟩ := h
  rw [cellsOf25] at hsz
  rw [cellTypes25] at hts
  obtain ⟨c0, c1, c2, c3, c4, rfl⟩ := open5 hsz
  simp only [Option.some.injEq] at hts
  subst hts
  obtain ⟨a0, rfl⟩ : ∃ a, c0 = .int .i64 a := by obtain ⟨u, hu, hk⟩ := hc 0 c0 rfl; exact int_cell under3 hu hk
  obtain ⟨a1, rfl⟩ : ∃ a, c1 = .int .i64 a := by obtain ⟨u, hu, hk⟩ := hc 1 c1 rfl; exact int_cell under3 hu hk
  obtain ⟨a2, rfl⟩ : ∃ a, c2 = .int .i64 a := by obtain ⟨u, hu, hk⟩ := hc 2 c2 rfl; exact int_cell under3 hu hk
  obtain ⟨a3, rfl⟩ : ∃ a, c3 = .int .i64 a := by obtain ⟨u, hu, hk⟩ := hc 3 c3 rfl; exact int_cell under3 hu hk
  obtain ⟨a4, rfl⟩ : ∃ a, c4 = .int .i64 a := by obtain ⟨u, hu, hk⟩ := hc 4 c4 rfl; exact int_cell under3 hu hk
  exact ⟨⟨a0, a1, a2, a3, a4⟩, rfl⟩
abbrev wAu : World := { (default : World) with heap := #[] }
theorem sup_vr (u : Sup) : VR (fun _ => none) u.v u.v := by
  have := LR.ar (β := fun _ => none) (l := [n64 u.frames, n64 u.mark, n64 u.lines, n64 u.cpus, n64 u.surplus]) (m := [n64 u.frames, n64 u.mark, n64 u.lines, n64 u.cpus, n64 u.surplus]) ⟨.int _ _, .int _ _, .int _ _, .int _ _, .int _ _, trivial⟩
  exact .agg this.1 this.2
set_option maxRecDepth 100000 in
theorem auditNone_lifted (os : Os) (started : os.Started) (H : Type) (enc : TypeId × Value → H) :
    ReturnsInHanded {} Tryz.checked os 9 .any (Rows.auditNoneSpec.pre6 enc Tryz.prog Tryz.f9 Rows.auditNoneRow.domain false) (Rows.auditNoneSpec.post enc Tryz.prog Tryz.f9 false true false false) := by
  refine returnsInHanded_of_change (C := Tryz.checked) own started (by kernel_rfl) Tryz.func9
    (ChangeSpec.witness6 (enc := enc) (C := Tryz.checked) false ⟨#[], #[.agg #[.int .i64 0, .int .i64 0, .int .i64 0, .int .i64 0, .int .i64 0]], []⟩ 8 (by kernel_rfl) (by kernel_rfl) (by kernel_rfl) (by kernel_rfl)) ?_
  intro W base args ds gs before hval0 hW _ _
  have hval : ∀ (j : Nat) t v, Tryz.f9.params[j]? = some t → args[j]? = some v → Value.okWide Tryz.prog W .any base t v := hval0
  have hW' : DataW.Whole enc Tryz.prog Tryz.f9.params.toList Rows.auditNoneSpec.vars false W args.toList ds gs before := hW
  have hA := hW'
  obtain ⟨p, q, hA, _, _, _, _⟩ := hA
  rw [Tryz.params9] at hA hval
  obtain ⟨v, d, rfl, rfl⟩ := args_one hA
  obtain ⟨u, rfl⟩ := arg25 (hval 0 25 v rfl rfl)
  have ha : AR (fun _ => none) #[u.v] #[u.v] := LR.ar (l := [_]) (m := [_]) ⟨sup_vr u, trivial⟩
  obtain ⟨m, hm⟩ := ran9 u wAu
  exact calls_trueH (m := m) mixed (yesL rx28_calls) laidOut params9_ok rfl Tryz.underlying4 rfl rfl hW' (R.start Tryz.prog W wAu rfl) ha hm
theorem auditNone_holds : Rows.AuditNoneSaid :=
  OpenClaim.holds_of_wide 9 Tryz.f9 rfl rfl rfl rfl rfl rfl rfl ⟨rfl, rfl, rfl, rfl, rfl⟩ rfl rfl rfl rfl rfl named9 Tryz.func9 facts9
    (of_decide_eq_true (by kernel_rfl)) (by unfold Func.isWrapper; first | (rw [if_pos (by decide +kernel)]; kernel_rfl) | (rw [if_neg (by decide +kernel)]; exact ⟨rfl, rfl⟩))
    (fun os started H enc _ => auditNone_lifted os started H enc)
#print axioms auditNone_holds
end Go.Proofs.YteljibbnpheekaaGreat
