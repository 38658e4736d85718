/-
  EraseJoins: the walk.
-/
import Derived.Test.YteljibbnpheekaaGreatEd
import Derived.Test.YteljibbnpheekaaGreatEe
namespace Go.Proofs.YteljibbnpheekaaGreat
open Go Go.Ideal Go.Ideal.W Go.Proofs

def t8 : GC := sq (og [mv 19 (.tmp 0), e 20 (.call 52 #[.tmp 19]), mv 21 (.tmp 1), e 22 (.call 52 #[.tmp 21]), mv 5 (.tmp 20), mv 6 (.tmp 22)]) (sq (og [e 23 (.row 39 12 0 #[] []), mv 24 (.tmp 0), e 25 (.append 39 12 96 (.tmp 23) (.tmp 24)), mv 26 (.tmp 1), e 27 (.append 39 12 96 (.tmp 25) (.tmp 26)), e 28 (.call 52 #[.tmp 27]), mv 7 (.tmp 28)]) (sq (sq (.ops [gr [mv 29 (.tmp 7), e 30 (.len (.tmp 29)), mv 31 (.tmp 5), e 32 (.len (.tmp 31)), mv 33 (.tmp 6), e 34 (.len (.tmp 33)), e 35 (.bin .add 3 (.tmp 32) (.tmp 34)), e 36 (.bin .neq 3 (.tmp 30) (.tmp 35)), mv 37 (.tmp 36)], .grp (some ((some 37), false)) [e 38 (.call 54 #[]), e 39 (.un .not (.tmp 38))], gr [e 40 (.pick (.tmp 37) (.const (.bool true)) (.tmp 39))]]) (.cond (.tmp 40) (sq (og [mv 4 (.const (.bool false))]) .ret) .skip)) (sq (sq (og [mv 8 (.const (.int .i64 0))]) (.block 0 (.loop (sq (sq (og [mv 41 (.tmp 8), mv 42 (.tmp 7), e 43 (.len (.tmp 42)), e 44 (.bin .lss 3 (.tmp 41) (.tmp 43))]) (.cond (.tmp 44) .skip (.exit 0))) (sq (.block 1 (sq (.ops [gr [mv 47 (.tmp 8), mv 48 (.tmp 5), e 49 (.len (.tmp 48)), e 50 (.bin .lss 3 (.tmp 47) (.tmp 49)), mv 51 (.tmp 50)], .grp (some ((some 51), true)) [mv 52 (.tmp 7), mv 53 (.tmp 8), e 54 (.iaddr 9 (.tmp 52) (.tmp 53)), e 55 (.load (some 9) (.tmp 54)), mv 56 (.tmp 5), mv 57 (.tmp 8), e 58 (.iaddr 9 (.tmp 56) (.tmp 57)), e 59 (.load (some 9) (.tmp 58)), e 60 (.bin .neq 37 (.tmp 55) (.tmp 59))], gr [e 61 (.pick (.tmp 51) (.tmp 60) (.const (.bool false))), mv 62 (.tmp 61)], .grp (some ((some 62), false)) [mv 63 (.tmp 8), mv 64 (.tmp 5), e 65 (.len (.tmp 64)), e 66 (.bin .geq 3 (.tmp 63) (.tmp 65)), mv 67 (.tmp 66)], .grp (some ((some 67), true)) [mv 68 (.tmp 7), mv 69 (.tmp 8), e 70 (.iaddr 9 (.tmp 68) (.tmp 69)), e 71 (.load (some 9) (.tmp 70)), mv 72 (.tmp 6), mv 73 (.tmp 8), mv 74 (.tmp 5), e 75 (.len (.tmp 74)), e 76 (.bin .sub 3 (.tmp 73) (.tmp 75)), e 77 (.iaddr 9 (.tmp 72) (.tmp 76)), e 78 (.load (some 9) (.tmp 77)), e 79 (.bin .neq 37 (.tmp 71) (.tmp 78))], .grp (some ((some 62), false)) [e 80 (.pick (.tmp 67) (.tmp 79) (.const (.bool false)))], gr [e 81 (.pick (.tmp 62) (.const (.bool true)) (.tmp 80))]]) (.cond (.tmp 81) (sq (og [mv 4 (.const (.bool false))]) .ret) .skip))) (og [mv 45 (.tmp 8), e 46 (.bin .add 3 (.tmp 45) (.const (.int .i64 1))), mv 8 (.tmp 46)])))))) (sq (og [mv 4 (.const (.bool true))]) .ret))))
def h8 : GFn := ⟨82, [⟨4, none⟩], sq (og [mv 4 (.const (.bool false))]) (sq (sq (og [mv 9 (.tmp 0), e 10 (.len (.tmp 9)), e 11 (.bin .gtr 3 (.tmp 10) (.const (.int .i64 60)))]) (.cond (.tmp 11) (og [mv 12 (.tmp 0), e 13 (.slice 39 12 (.tmp 12) none (some (.const (.int .i64 60))) none), mv 0 (.tmp 13)]) .skip)) (sq (sq (og [mv 14 (.tmp 1), e 15 (.len (.tmp 14)), e 16 (.bin .gtr 3 (.tmp 15) (.const (.int .i64 60)))]) (.cond (.tmp 16) (og [mv 17 (.tmp 1), e 18 (.slice 39 12 (.tmp 17) none (some (.const (.int .i64 60))) none), mv 1 (.tmp 18)]) .skip)) t8))⟩
theorem lw8 : lowG Tryz.prog 8 = some h8 := by kernel_rfl

theorem row39 (w : World) : rowS 39 12 0 #[] [] w = .ret (.slice (some ⟨w.heap.size, 0, none⟩) 0 0, World.push w (.cells #[] 39)) := rfl

set_option maxHeartbeats 1000000 in
set_option maxRecDepth 100000 in
theorem tail8 {K : Kont} {fuel N : Nat} (hK : Eras K N) (hN : 120 < N) (hf : 120 < fuel) {w : World} {u v : Value} {xs ys : List Stp} (hu : SrcE ESt w u xs) (hv : SrcE ESt w v ys) (hx : xs.length ≤ 60) (hy : ys.length ≤ 60) {ρ : Env} (e0 : ρ 0 = u) (e1 : ρ 1 = v) :
    codeR ⟨Tryz.prog, K, fuel, 8, none, 82, finPost Tryz.prog [⟨4, none⟩] fun z _ => z = .bool true⟩ t8 [] ρ [] w := by
  simp -implicitDefEqProofs [t8, W.e, W.e0, W.mv, W.sq, W.og, W.gr, W.fa, W.ld, e0, e1]
  refine valA_of (hK.e52 hu (by omega) (by omega)) (fun v1 w1 h1 => ?_)
  simp only at h1
  simp -implicitDefEqProofs [e0, e1]
  refine valA_of (hK.e52 (hv.keep h1.k (fun _ _ h => h)) (by omega) (by omega)) (fun v2 w2 h2 => ?_)
  simp only at h2
  have r1 := h1.row.keep h2.k (fun _ _ h => h)
  have r2 := h2.row
  have hk2 : Keeps w w2 (fun _ => False) := h1.k.trans h2.k (fun _ _ h => h) (fun _ _ h => h)
  have hu2 := hu.keep hk2 (fun _ _ h => h)
  have hv2 := hv.keep hk2 (fun _ _ h => h)
  simp -implicitDefEqProofs [e0, e1, row39]
  have k3 : Keeps w2 (World.push w2 (.cells #[] 39)) (fun _ => False) := Keeps.push _ _ _
  have r0 : OutE ESt w2 (World.push w2 (.cells #[] 39)) (.slice (some ⟨w2.heap.size, 0, none⟩) 0 0) [] := ⟨RowE.empty (c := #[]) (by simp [ESt]), k3, fun j hj => by simp at hj; omega⟩
  refine valA_of (R := fun r => OutE ESt w2 r.2 r.1 ([] ++ xs)) (r0.app (E := ESt) (hu2.keep k3 (fun _ _ h => h)) (by simp only [List.length_nil]; omega) (fun v' w' h _ => h)) (fun v3 w3 h3 => ?_)
  simp only [List.nil_append] at h3
  simp -implicitDefEqProofs [e0, e1]
  refine valA_of (R := fun r => OutE ESt w2 r.2 r.1 (xs ++ ys)) (h3.app (E := ESt) (hv2.keep h3.k (fun _ _ h => h)) (by omega) (fun v' w' h _ => h)) (fun v4 w4 h4 => ?_)
  simp only at h4
  simp -implicitDefEqProofs
  refine valA_of (hK.e52 h4.row.src (by rw [List.length_append]; omega) (by rw [List.length_append]; omega)) (fun v5 w5 h5 => ?_)
  simp only at h5
  have hk5 : Keeps w2 w5 (fun _ => False) := h4.k.trans h5.k (fun _ _ h => h) (fun _ _ h => h)
  have r1 := r1.keep hk5 (fun _ _ h => h)
  have r2 := r2.keep hk5 (fun _ _ h => h)
  have r5 := h5.row
  rw [opsOf_append] at r5
  have hl1 := fun w' => r1.lenS (w' := w')
  have hl2 := fun w' => r2.lenS (w' := w')
  have hl5 := fun w' => r5.lenS (w' := w')
  have q1 := opsOf_len xs
  have q2 := opsOf_len ys
  generalize opsOf xs = ms1 at *
  generalize opsOf ys = ms2 at *
  have x0 : IntKind.i64.wrap ((ms1.length : Int) + (ms2.length : Int)) = (ms1.length : Int) + (ms2.length : Int) := by rw [IntKind.wrap_i64]; omega
  have hl5' : ∀ w', lenS v5 w' = .ret (.int .i64 ((ms1.length : Int) + (ms2.length : Int)), w') := fun w' => by rw [hl5, List.length_append]; simp
  simp -implicitDefEqProofs [hl1, hl2, hl5', x0]
  refine valA_of (hK.awake _) (fun v6 w6 h6 => ?_)
  obtain ⟨hv6, hw6⟩ := h6
  simp only at hv6 hw6
  subst hv6 hw6
  simp -implicitDefEqProofs
  refine loop_go (fun i ρ w' => ∃ q : Nat, i = (ms1 ++ ms2).length - q ∧ q ≤ (ms1 ++ ms2).length ∧ ρ 5 = v1 ∧ ρ 6 = v2 ∧ ρ 7 = v5 ∧ ρ 8 = n64 q ∧ w' = w6) ?_ (i := (ms1 ++ ms2).length) ?_ (by show (ms1 ++ ms2).length < fuel; rw [List.length_append]; omega)
  · rintro i ρ w' ⟨q, rfl, hq, e5, e6, e7, e8, rfl⟩
    have hlen : (ms1 ++ ms2).length = ms1.length + ms2.length := List.length_append
    have x1 : IntKind.i64.wrap ((q : Int) + 1) = (q : Int) + 1 := by rw [IntKind.wrap_i64]; omega
    by_cases h : q < (ms1 ++ ms2).length
    · obtain ⟨b5, o5, p5, c5, hve5, hc5, hs5, hx5⟩ := rowOp r5 h
      have h' : (q : Int) < (ms1.length : Int) + (ms2.length : Int) := by omega
      by_cases ha : q < ms1.length
      · obtain ⟨b1, o1, p1, c1, hve1, hc1, hs1, hx1⟩ := rowOp r1 ha
        have hge : ¬ ms1.length ≤ q := by omega
        have hel : (ms1 ++ ms2)[q] = ms1[q] := List.getElem_append_left ha
        simp -implicitDefEqProofs [e5, e6, e7, e8, h, h', ha, hge, hve1, hve5, hc1, hc5, hs1, hs5, hx1, hx5, hel, x1, op_neL]
        exact ⟨ms1.length + ms2.length - (q + 1), by omega, q + 1, rfl, by omega, by omega⟩
      · have hb : q - ms1.length < ms2.length := by omega
        obtain ⟨b2, o2, p2, c2, hve2, hc2, hs2, hx2⟩ := rowOp r2 hb
        have hge : ms1.length ≤ q := by omega
        have hel : (ms1 ++ ms2)[q] = ms2[q - ms1.length] := List.getElem_append_right hge
        have x2 : IntKind.i64.wrap ((q : Int) - (ms1.length : Int)) = ((q - ms1.length : Nat) : Int) := by rw [IntKind.wrap_i64]; omega
        simp -implicitDefEqProofs [e5, e6, e7, e8, h, h', ha, hge, hve2, hve5, hc2, hc5, hs2, hs5, hx2, hx5, hel, x1, x2, hb, hl1, op_neL]
        exact ⟨ms1.length + ms2.length - (q + 1), by omega, q + 1, rfl, by omega, by omega⟩
    · have hq2 : q = (ms1 ++ ms2).length := by omega
      subst hq2
      simp -implicitDefEqProofs [e7, e8, hl5']
  · exact ⟨0, by simp, Nat.zero_le _, by simp, by simp, by simp, by simp, rfl⟩

set_option maxRecDepth 100000 in
theorem run8 {K : Kont} {fuel N : Nat} (hK : Eras K N) (hN : 120 < N) (hf : 120 < fuel) {w : World} {u v : Value} {xs ys : List Stp} (hu : ArgE w u xs) (hv : ArgE w v ys) :
    wpGFn Tryz.prog K fuel 8 h8 #[u, v] w fun z _ => z = .bool true := by
  rw [gfn_start]
  have hlu := fun w' => hu.src.lenS (w' := w')
  have hlv := fun w' => hv.src.lenS (w' := w')
  by_cases hx : 60 < xs.length
  · obtain ⟨u', hcu, hsu⟩ := cut60 hu hx
    have hx' : (60 : Int) < (xs.length : Int) := by omega
    by_cases hy : 60 < ys.length
    · obtain ⟨v', hcv, hsv⟩ := cut60 hv hy
      have hy' : (60 : Int) < (ys.length : Int) := by omega
      simp -implicitDefEqProofs [h8, W.e, W.e0, W.mv, W.sq, W.og, W.gr, W.fa, W.ld, hlu, hlv, hx, hy, hx', hy', hcu, hcv]
      exact tail8 hK hN hf hsu hsv (by rw [List.length_take]; omega) (by rw [List.length_take]; omega) (by simp) (by simp)
    · have hy' : ¬ (60 : Int) < (ys.length : Int) := by omega
      simp -implicitDefEqProofs [h8, W.e, W.e0, W.mv, W.sq, W.og, W.gr, W.fa, W.ld, hlu, hlv, hx, hy, hx', hy', hcu]
      exact tail8 hK hN hf hsu hv.src (by rw [List.length_take]; omega) (by omega) (by simp) (by simp)
  · have hx' : ¬ (60 : Int) < (xs.length : Int) := by omega
    by_cases hy : 60 < ys.length
    · obtain ⟨v', hcv, hsv⟩ := cut60 hv hy
      have hy' : (60 : Int) < (ys.length : Int) := by omega
      simp -implicitDefEqProofs [h8, W.e, W.e0, W.mv, W.sq, W.og, W.gr, W.fa, W.ld, hlu, hlv, hx, hy, hx', hy', hcv]
      exact tail8 hK hN hf hu.src hsv (by omega) (by rw [List.length_take]; omega) (by simp) (by simp)
    · have hy' : ¬ (60 : Int) < (ys.length : Int) := by omega
      simp -implicitDefEqProofs [h8, W.e, W.e0, W.mv, W.sq, W.og, W.gr, W.fa, W.ld, hlu, hlv, hx, hy, hx', hy']
      exact tail8 hK hN hf hu.src hv.src (by omega) (by omega) (by simp) (by simp)
end Go.Proofs.YteljibbnpheekaaGreat
