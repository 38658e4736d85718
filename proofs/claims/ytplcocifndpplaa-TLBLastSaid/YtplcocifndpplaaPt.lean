/-
  TLBHolds: what is told of a page holds it.
-/
import Derived.Test.YtplcocifndpplaaPr
namespace Go.Proofs.Ytplcocifndpplaa
open Go Go.Ideal

theorem size_facts {size : Int} (h : 0 ≤ size ∧ size < 256) : IntKind.i64.wrap (size.tmod 64) = size.tmod 64 ∧ IntKind.i64.wrap (size.tmod 64 + 1) = size.tmod 64 + 1 ∧ 1 ≤ size.tmod 64 + 1 ∧ size.tmod 64 + 1 ≤ 64 := by
  have h1 : size.tmod 64 = size % 64 := Int.tmod_eq_emod_of_nonneg h.1
  rw [h1, IntKind.wrap_i64, IntKind.wrap_i64]
  omega

theorem Made.good {w w' : World} {v : Value} {size : Int} {xs : List ActR} (h : Made w w' v size xs) (hs : 1 ≤ size ∧ size ≤ 64) : ∃ b x ls, v = .tuple #[ptr b, ptr x, .bool true] ∧ Two w' b x size ls ls ∧ GoodL size ls ∧ ls.length ≤ 64 ∧ Keeps w w' (fun _ => False) := by
  rcases h with ⟨hb, _⟩ | ⟨hok, b, x, rfl, h2, hk, _⟩
  · omega
  · have hg := runL_good hok.1 (xs.take 60)
    exact ⟨b, x, _, rfl, h2, hg, by have := hg.len; omega, hk⟩

theorem any_look (ls : List Line) (s p : Int) : (lookL ls s p).isSome = ls.any fun c => lineHolds c s p := by
  unfold lookL
  rw [Bool.eq_iff_iff, List.find?_isSome, List.any_eq_true]

theorem run8 {K : Kont} {fuel : Nat} (hT : Top K) (hf : 2000 ≤ fuel) {w : World} {size s p : Int} (hs : 0 ≤ size ∧ size < 256) (hp : In64 p) {v : Value} {xs : List ActR} (hv : ActsAt w v xs) :
    wpGFn Try.prog K fuel 8 g8 #[.agg #[.int .u8 size, v, i64 s, i64 p]] w fun r _ => r = .bool true := by
  rw [gfn_start]
  obtain ⟨z1, z2, z3⟩ := size_facts hs
  have k0 : Keeps w (World.push w (.cells #[.int .u8 size, v, i64 s, i64 p] 54)) (fun _ => False) := Keeps.push _ _ _
  simp -implicitDefEqProofs [g8, z1, z2]
  refine valA_of (hT.made (hv.keep k0)) (fun v1 w1 hq => ?_)
  obtain ⟨b, x, ls, rfl, h2, hg, hl, hk⟩ := Made.good hq z3
  simp -implicitDefEqProofs [hT.api.has.awake15, nil25]
  refine valA_of (hT.api.look h2.hb hg.right (by omega) s p) (fun v2 w2 hq2 => ?_)
  obtain ⟨hv2, k2⟩ := hq2
  simp only at hv2 k2
  subst hv2
  obtain ⟨h3, _⟩ := h2.new k2
  have kz2 : Keeps w2 (World.set (World.push w2 (.cells zeroL.cells 31)) w2.heap.size (.cells ((lookL ls s p).getD zeroL).cells 31)) (fun _ => False) :=
    (Keeps.push w2 (.cells zeroL.cells 31) (fun _ => False)).trans (Keeps.set _ w2.heap.size _ (F := fun j => j = w2.heap.size) (fun _ => rfl)) (fun _ _ h => h) (fun j hj h => by omega)
  obtain ⟨h4, _⟩ := h3.new kz2
  have c10 : cellsOf? (World.set (World.push w2 (.cells zeroL.cells 31)) w2.heap.size (.cells ((lookL ls s p).getD zeroL).cells 31)) w2.heap.size = some (((lookL ls s p).getD zeroL).cells, 31, (0, 0)) := by simp
  have hany := any_look ls s p
  have rest : ∀ {w3 : World} {ρ : Env} {is : Bool}, Two w3 b x (size.tmod 64 + 1) ls ls → is = (ls.any fun c => lineHolds c s p) → ρ 5 = i64 s → ρ 6 = i64 p → ρ 7 = ptr b → ρ 11 = .bool is →
      codeR ⟨Try.prog, K, fuel, 8, none, 92, finPost Try.prog [⟨2, none⟩] fun r _ => r = .bool true⟩ t8 [] ρ [] w3 := by
    intro w3 ρ is h4 his e5 e6 e7 e11
    simp -implicitDefEqProofs [t8, e7]
    refine valA_of (hT.api.lines h4.hb (by omega)) (fun va w4 hq4 => ?_)
    obtain ⟨hva, k4, _⟩ := hq4
    simp only at hva k4
    obtain ⟨h5, _⟩ := h4.new k4
    simp -implicitDefEqProofs
    refine loop_go (fun i ρ w' => ∃ (q : Nat), i = ls.length - q ∧ q ≤ ls.length ∧ w' = w4 ∧ ρ 5 = i64 s ∧ ρ 6 = i64 p ∧ ρ 7 = ptr b ∧ ρ 11 = .bool is ∧ ρ 12 = va ∧ ρ 13 = .bool ((ls.take q).any fun c => lineHolds c s p) ∧ ρ 14 = i64 q) ?_ (i := ls.length) ?_ (by simp; omega)
    · rintro i ρ w' ⟨q, rfl, hq, rfl, e5, e6, e7, e11, e12, e13, e14⟩
      have w1 : IntKind.i64.wrap ((q : Int) + 1) = (q : Int) + 1 := by rw [IntKind.wrap_i64]; omega
      by_cases hql : q < ls.length
      · obtain ⟨lb, o, cap, c, hve, hc, hcsz, hext⟩ := hva.line hql
        have hh : ∀ w, K.enter 20 #[.agg ls[q].cells, .int .i64 s, .int .i64 p] w = .ret (.bool (lineHolds ls[q] s p), w) := fun w => hT.api.has.holds ls[q] s p w (hg.right _ (List.getElem_mem hql))
        have hnext : ((ls.take (q + 1)).any fun c => lineHolds c s p) = (((ls.take q).any fun c => lineHolds c s p) || lineHolds ls[q] s p) := by rw [List.take_succ_eq_append_getElem hql, List.any_append]; simp
        generalize hM : ((ls.take (q + 1)).any fun c => lineHolds c s p) = m1 at hnext
        cases hb : (ls.take q).any fun c => lineHolds c s p with
        | true =>
          rw [hb] at e13 hnext
          simp -implicitDefEqProofs [e5, e6, e7, e11, e12, e13, e14, hva.len, hql, w1]
          exact ⟨ls.length - (q + 1), by omega, q + 1, rfl, hql, by simpa using hM.trans hnext, by omega⟩
        | false =>
          rw [hb] at e13 hnext
          simp -implicitDefEqProofs [e5, e6, e7, e11, e12, e13, e14, hve, hc, hcsz, hext, hql, w1, hh]
          exact ⟨ls.length - (q + 1), by omega, q + 1, rfl, hql, by rw [hM, hnext]; rfl, by omega⟩
      · have hqe : q = ls.length := by omega
        subst hqe
        rw [List.take_length, ← his] at e13
        simp -implicitDefEqProofs [e5, e6, e7, e11, e12, e13, e14, hva.len, bool_eq]
        refine valA_of (hT.api.flush.go h5.hb hg.right (by omega) s p 1 hp ⟨by omega, by omega⟩) (fun v6 w6 hq6 => ?_)
        obtain ⟨hv6, hlay⟩ := hq6
        simp only at hv6 hlay
        subst hv6
        simp -implicitDefEqProofs [e7, e12, hva.len]
        have hfl := flushL_len ls s p 1
        refine valA_of (hT.api.lines hlay.1 (by omega)) (fun v7 w7 hq7 => ?_)
        obtain ⟨hv7, _, _⟩ := hq7
        simp only at hv7
        have w9 : IntKind.i64.wrap ((ls.length : Int) - ((flushL ls s p 1).length : Int)) = (ls.length : Int) - ((flushL ls s p 1).length : Int) := by rw [IntKind.wrap_i64]; omega
        simp -implicitDefEqProofs [hv7.len, w9]
    · exact ⟨0, rfl, Nat.zero_le _, rfl, by simp [e5], by simp [e6], by simp [e7], by simp [e11], by simp, by simp, by simp⟩
  cases hlk : lookL ls s p with
  | none =>
    rw [hlk] at hany h4
    simp -implicitDefEqProofs [lookV, Line.val]
    refine rest h4 hany ?_ ?_ ?_ ?_ <;> simp
  | some c =>
    have hc := List.find?_some hlk
    have hcm := List.mem_of_find?_eq_some hlk
    rw [hlk] at hany h4 c10
    have hh : ∀ w, K.enter 20 #[.agg c.cells, .int .i64 s, .int .i64 p] w = .ret (.bool (lineHolds c s p), w) := fun w => hT.api.has.holds c s p w (hg.right _ hcm)
    simp only [hc] at hh
    simp -implicitDefEqProofs [lookV, Line.val, hh]
    refine rest h4 hany ?_ ?_ ?_ ?_ <;> simp
end Go.Proofs.Ytplcocifndpplaa
