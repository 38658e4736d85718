/-
  TLBLast: what was put last is there.
-/
import Derived.Test.YtplcocifndpplaaPv
namespace Go.Proofs.Ytplcocifndpplaa
open Go Go.Ideal

def lostB (l : List Line) (c d : Line) : Bool := !(l.any fun e => decide (e = d)) && !lineHolds d c.s c.p && !lineHolds c d.s d.p

theorem meets_apart {c d : Line} (hc : 0 ≤ c.p) (h1 : lineHolds d c.s c.p = false) (h2 : lineHolds c d.s d.p = false) : meets d c.s c.p (sizeOf c.o) = false := by
  have hs := size_cases c.o
  have hs' := size_cases d.o
  have hn : ¬ c.p < 0 := by omega
  rw [Bool.eq_false_iff] at *
  simp [meets, hn]
  simp [lineHolds] at h1 h2
  omega

theorem last_lost {size : Int} {ls : List Line} (hg : GoodL size ls) {c : Line} (hc : lineRight c = true) : ∃ l, putL ls size c = l ++ [c] ∧ l.length ≤ ls.length ∧ (∀ d ∈ l, apartL d c) ∧ (ls.filter (lostB l c)).length ≤ 1 ∧ ((ls.filter (lostB l c)).length = 0 ∨ (ls.length : Int) = size) := by
  obtain ⟨_, _, hc1, _⟩ := lineRight_spec hc
  have hs := size_cases c.o
  have hn : ¬ sizeOf c.o < 1 := by omega
  have hap : ∀ d ∈ flushL ls c.s c.p (sizeOf c.o), apartL d c := by
    intro d hd
    simp only [flushL, if_neg hn, List.mem_filter] at hd
    exact not_meets_apart hc1 (by simpa using hd.2)
  have hlen := flushL_len ls c.s c.p (sizeOf c.o)
  by_cases hfull : size ≤ ((flushL ls c.s c.p (sizeOf c.o)).length : Int)
  · have hgl := hg.len
    have he : flushL ls c.s c.p (sizeOf c.o) = ls := (flush_sub ls c.s c.p (sizeOf c.o)).eq_of_length (by omega)
    refine ⟨(flushL ls c.s c.p (sizeOf c.o)).drop 1, by simp only [putL, if_pos hfull], by rw [List.length_drop]; omega, fun d hd => hap d ((List.drop_sublist _ _).subset hd), ?_, .inr (by omega)⟩
    rw [he]
    cases ls with
    | nil => simp
    | cons x t =>
      have ht : t.filter (lostB ((x :: t).drop 1) c) = [] := by
        rw [List.filter_eq_nil_iff]
        intro d hd
        have : (t.any fun e => decide (e = d)) = true := List.any_eq_true.2 ⟨d, hd, by simp⟩
        simp [lostB, this]
      rw [List.filter_cons, ht]
      split <;> simp
  · refine ⟨flushL ls c.s c.p (sizeOf c.o), by simp only [putL, if_neg hfull], hlen, hap, ?_, .inl ?_⟩
    all_goals
      have : ls.filter (lostB (flushL ls c.s c.p (sizeOf c.o)) c) = [] := by
        rw [List.filter_eq_nil_iff]
        intro d hd hl
        simp only [lostB, Bool.and_eq_true, Bool.not_eq_true'] at hl
        obtain ⟨⟨h1, h2⟩, h3⟩ := hl
        have hm := meets_apart hc1 h2 h3
        have hin : d ∈ flushL ls c.s c.p (sizeOf c.o) := by
          simp only [flushL, if_neg hn, List.mem_filter]
          exact ⟨hd, by simp [hm]⟩
        rw [Bool.eq_false_iff] at h1
        exact h1 (List.any_eq_true.2 ⟨d, hin, by simp⟩)
      rw [this]
      simp

theorem look_last {l : List Line} {c : Line} (h : ∀ d ∈ l, apartL d c) : lookL (l ++ [c]) c.s c.p = some c := by
  unfold lookL
  rw [List.find?_append, List.find?_eq_none.2 (fun d hd => by simp [(apart_holds (h d hd)).1]), Option.none_or]
  simp [holds_self]

theorem run6 {K : Kont} {fuel : Nat} (hT : Top K) (hf : 2000 ≤ fuel) {w : World} {size : Int} (hs : 0 ≤ size ∧ size < 256) {v : Value} {xs : List ActR} (hv : ActsAt w v xs) (c : Line) :
    wpGFn Try.prog K fuel 6 g6 #[.int .u8 size, v, .agg c.cells] w fun r _ => r = .bool true := by
  rw [gfn_start]
  obtain ⟨z1, z2, z3⟩ := size_facts hs
  have k0 : Keeps w (World.push w (.cells c.cells 31)) (fun _ => False) := Keeps.push _ _ _
  have c0 : cellsOf? (World.push w (.cells c.cells 31)) w.heap.size = some (c.cells, 31, (0, 0)) := by simp
  simp -implicitDefEqProofs [g6, z1, z2]
  refine valA_of (hT.made (hv.keep k0)) (fun v1 w1 hq => ?_)
  obtain ⟨b, x, ls, rfl, h2, hg, hl, hk⟩ := Made.good hq z3
  have c1 := hk.cells c0 (fun h => h)
  have nfoot : ∀ j, foot w1 b j ∨ foot w1 x j → j ≠ w.heap.size := by
    rcases hq with ⟨hb, _⟩ | ⟨_, b', x', he, _, _, hnew⟩
    · omega
    · simp only [Value.tuple.injEq, Array.mk.injEq, List.cons.injEq, ptr, Value.pointer.injEq, Option.some.injEq, Addr.mk.injEq, and_true] at he
      obtain ⟨rfl, rfl⟩ := he
      intro j hj e
      have := hnew j hj
      simp at this
      omega
  simp -implicitDefEqProofs [hT.api.has.awake15, nil25]
  refine valA_of (hT.api.lines h2.hb (by omega)) (fun va w2 hq2 => ?_)
  obtain ⟨hva, k2, hnva⟩ := hq2
  simp only at hva k2 hnva
  obtain ⟨h3, hf3, hg3⟩ := h2.keep k2 (fun _ h => h.elim)
  have c2 := k2.cells c1 (fun h => h)
  have h21 := fun w => hT.api.has.right21 c w
  simp only [Line.val] at h21
  simp -implicitDefEqProofs [c2]
  refine valA_of (hT.api.put h3.hb hg.right (by omega) z3.1 hg.len c) (fun v4 w4 hq4 => ?_)
  simp only at hq4
  rcases hq4 with ⟨hc, rfl, hlay⟩ | ⟨hc, rfl, hlay⟩
  · obtain ⟨h5, g5'⟩ := h3.left hlay
    have c4 := g5'.1.cells c2 (fun h => nfoot _ (h.imp (hf3 _).1 (hg3 _).1) rfl)
    have hva4 := hva.keep g5'.1 (fun j hj hfj => by have := hnva j hj; have : j < w1.heap.size := h2.blt (hfj.imp (hf3 j).1 (hg3 j).1); omega)
    rw [hc] at h21
    simp -implicitDefEqProofs [c4, h21]
    refine valA_of (hT.api.lines h5.hb (by omega)) (fun vn w6 hq6 => ?_)
    obtain ⟨hvn, k6, _⟩ := hq6
    simp only at hvn k6
    simp -implicitDefEqProofs
    refine valA_of (hT.api.same (hva4.keep k6 (fun _ _ h => h)) hvn (by omega)) (fun v7 w7 hq7 => ?_)
    obtain ⟨hv7, _⟩ := hq7
    simp only at hv7
    subst hv7
    simp -implicitDefEqProofs
  · obtain ⟨l, hL, hll, hap, hlost1, hlost2⟩ := last_lost hg hc
    have hgood := hg.put z3.1 hc
    rw [hL] at hlay hgood
    obtain ⟨h5, g5'⟩ := h3.left hlay
    have c4 := g5'.1.cells c2 (fun h => nfoot _ (h.imp (hf3 _).1 (hg3 _).1) rfl)
    have hva4 := hva.keep g5'.1 (fun j hj hfj => by have := hnva j hj; have : j < w1.heap.size := h2.blt (hfj.imp (hf3 j).1 (hg3 j).1); omega)
    simp -implicitDefEqProofs
    refine valA_of (hT.api.lines h5.hb (by simp; omega)) (fun vn w6 hq6 => ?_)
    obtain ⟨hvn, k6, _⟩ := hq6
    simp only at hvn k6
    have hva6 := hva4.keep k6 (fun _ _ h => h)
    obtain ⟨h7, _⟩ := h5.new k6
    have c6 := k6.cells c4 (fun h => h)
    simp -implicitDefEqProofs [c6]
    refine valA_of (hT.api.look h7.hb hgood.right (by simp; omega) c.s c.p) (fun v8 w8 hq8 => ?_)
    obtain ⟨hv8, k8⟩ := hq8
    simp only at hv8 k8
    rw [look_last hap] at hv8
    subst hv8
    have kz8 : Keeps w8 (World.set (World.push w8 (.cells zeroL.cells 31)) w8.heap.size (.cells c.cells 31)) (fun _ => False) :=
      (Keeps.push w8 (.cells zeroL.cells 31) (fun _ => False)).trans (Keeps.set _ w8.heap.size _ (F := fun j => j = w8.heap.size) (fun _ => rfl)) (fun _ _ h => h) (fun j hj h => by omega)
    have c9 : cellsOf? (World.set (World.push w8 (.cells zeroL.cells 31)) w8.heap.size (.cells c.cells 31)) w8.heap.size = some (c.cells, 31, (0, 0)) := by simp
    have c8 := kz8.cells (k8.cells c6 (fun h => h)) (fun h => h)
    have hvn8 := (hvn.keep k8 (fun _ _ h => h)).keep kz8 (fun _ _ h => h)
    have hva8 := (hva6.keep k8 (fun _ _ h => h)).keep kz8 (fun _ _ h => h)
    generalize hW : World.set (World.push w8 (.cells zeroL.cells 31)) w8.heap.size (.cells c.cells 31) = w9 at kz8 c9 c8 hvn8 hva8
    have hlast : l.length < (l ++ [c]).length := by simp
    obtain ⟨lb, o, cap, cc, hve, hcc, hcsz, hext⟩ := hvn8.line hlast
    have hgl : (l ++ [c])[l.length] = c := by simp
    rw [hgl] at hext
    have wl : IntKind.i64.wrap (((l ++ [c]).length : Int) - 1) = (l.length : Int) := by rw [IntKind.wrap_i64]; simp; omega
    have hlt : (l.length : Int) < ((l ++ [c]).length : Int) := by simp; omega
    have hlen1 : (l ++ [c]).length = l.length + 1 := by simp
    have wl2 : IntKind.i64.wrap (l.length : Int) = (l.length : Int) := by rw [IntKind.wrap_i64]; omega
    have hlt1 : (l.length : Int) < (l.length : Int) + 1 := by omega
    have any_next : ∀ (d : Line) {k : Nat} (hk : k < l.length), ((l.take (k + 1)).any fun e => decide (e = d)) = (((l.take k).any fun e => decide (e = d)) || decide (l[k] = d)) := by
      intro d k hk; rw [List.take_succ_eq_append_getElem hk, List.any_append]; simp
    have cnt_next : ∀ {q : Nat} (hq : q < ls.length), ((ls.take (q + 1)).filter (lostB l c)).length = ((ls.take q).filter (lostB l c)).length + if lostB l c ls[q] = true then 1 else 0 := by
      intro q hq; rw [List.take_succ_eq_append_getElem hq, List.filter_append, List.length_append]
      congr 1
      by_cases hb : lostB l c ls[q] = true <;> simp [hb]
    have cnt_le : ∀ q, ((ls.take q).filter (lostB l c)).length ≤ 64 := fun q => by
      have := List.length_filter_le (lostB l c) (ls.take q)
      rw [List.length_take] at this
      omega
    simp -implicitDefEqProofs [lookV, Line.val, hW, c9, c8, line_ne, -cells_set, wl2, hlt1, hve, hcc, hcsz, hext, hlen1]
    refine loop_go (fun i ρ w' => ∃ (q : Nat), i = ls.length - q ∧ q ≤ ls.length ∧ w' = w9 ∧ ρ 0 = .int .u8 size ∧ ρ 5 = ptr w.heap.size ∧ ρ 10 = va ∧ ρ 11 = vn ∧ ρ 14 = i64 ((ls.take q).filter (lostB l c)).length ∧ ρ 15 = i64 q) ?_ (i := ls.length) ?_ (by show ls.length < fuel; omega)
    · rintro i ρ w' ⟨q, rfl, hq, rfl, e0, e5, e10, e11, e14, e15⟩
      have x1 : IntKind.i64.wrap ((q : Int) + 1) = (q : Int) + 1 := by rw [IntKind.wrap_i64]; omega
      by_cases hql : q < ls.length
      · obtain ⟨lb1, o1, cap1, cc1, hve1, hcc1, hcsz1, hext1⟩ := hva8.line hql
        obtain ⟨d0, d1⟩ := line_at hcsz1 hext1
        simp -implicitDefEqProofs [e10, e15, hva8.len, hql]
        refine loop_go (fun i ρ w'' => ∃ (k : Nat), i = l.length - k ∧ k ≤ l.length ∧ w'' = w' ∧ ρ 0 = .int .u8 size ∧ ρ 5 = ptr w.heap.size ∧ ρ 10 = va ∧ ρ 11 = vn ∧ ρ 14 = i64 ((ls.take q).filter (lostB l c)).length ∧ ρ 15 = i64 q ∧ ρ 16 = .bool ((l.take k).any fun e => decide (e = ls[q])) ∧ ρ 17 = i64 k) ?_ (i := l.length) ?_ (by show l.length < fuel; omega)
        · rintro i ρ w'' ⟨k, rfl, hkq, rfl, e0, e5, e10, e11, e14, e15, e16, e17⟩
          have x2 : IntKind.i64.wrap ((k : Int) + 1) = (k : Int) + 1 := by rw [IntKind.wrap_i64]; omega
          by_cases hkl : k < l.length
          · have hkl' : k < (l ++ [c]).length := by simp; omega
            have hx2 : (k : Int) + 1 < (l.length : Int) + 1 := by omega
            obtain ⟨lb2, o2, cap2, cc2, hve2, hcc2, hcsz2, hext2⟩ := hvn8.line hkl'
            have hg2 : (l ++ [c])[k] = l[k] := List.getElem_append_left hkl
            rw [hg2] at hext2
            have hnx := any_next ls[q] hkl
            generalize hM : ((l.take (k + 1)).any fun e => decide (e = ls[q])) = m1 at hnx
            have hkl2 : (k : Int) < (l.length : Int) + 1 := by omega
            cases hb : (l.take k).any fun e => decide (e = ls[q]) with
            | true =>
              rw [hb] at e16 hnx
              simp -implicitDefEqProofs [e0, e5, e10, e11, e14, e15, e16, e17, hvn8.len, x2, hlen1, hx2]
              exact ⟨l.length - (k + 1), by omega, k + 1, rfl, hkl, by simpa using hM.trans hnx, by omega⟩
            | false =>
              rw [hb] at e16 hnx
              simp -implicitDefEqProofs [e0, e5, e10, e11, e14, e15, e16, e17, x2, hlen1, hx2, hve1, hve2, hcc1, hcc2, hcsz1, hcsz2, hext1, hext2, hql, hkl2, line_eq]
              exact ⟨l.length - (k + 1), by omega, k + 1, rfl, hkl, by rw [hM, hnx]; rfl, by omega⟩
          · have hke : k = l.length := by omega
            subst hke
            have hh1 := fun w => hT.api.has.holds ls[q] c.s c.p w (hg.right _ (List.getElem_mem hql))
            have hh2 := fun w => hT.api.has.holds c ls[q].s ls[q].p w hc
            have hcn := cnt_next hql
            have hcl := cnt_le q
            have x3 : IntKind.i64.wrap ((((ls.take q).filter (lostB l c)).length : Int) + 1) = (((ls.take q).filter (lostB l c)).length : Int) + 1 := by rw [IntKind.wrap_i64]; omega
            rw [List.take_length] at e16
            simp only [Line.val] at hh1 hh2
            cases b1 : (l.any fun e => decide (e = ls[q])) with
            | true =>
              have hz : lostB l c ls[q] = false := by simp [lostB, b1]
              rw [b1] at e16
              simp -implicitDefEqProofs [e0, e5, e10, e11, e14, e15, e16, e17, hvn8.len, x1, x2, hlen1]
              exact ⟨ls.length - (q + 1), by omega, q + 1, rfl, hql, by rw [hcn, hz]; simp, by omega⟩
            | false =>
              rw [b1] at e16
              cases b2 : lineHolds ls[q] c.s c.p with
              | true =>
                have hz : lostB l c ls[q] = false := by simp [lostB, b1, b2]
                simp only [b2] at hh1
                simp -implicitDefEqProofs [e0, e5, e10, e11, e14, e15, e16, e17, hvn8.len, x1, x2, hlen1, hve1, hcc1, hcsz1, hext1, hql, c8, hh1]
                exact ⟨ls.length - (q + 1), by omega, q + 1, rfl, hql, by rw [hcn, hz]; simp, by omega⟩
                | false =>
                cases b3 : lineHolds c ls[q].s ls[q].p with
                | true =>
                  have hz : lostB l c ls[q] = false := by simp [lostB, b1, b2, b3]
                  simp only [b2] at hh1
                  simp only [b3] at hh2
                  simp -implicitDefEqProofs [e0, e5, e10, e11, e14, e15, e16, e17, hvn8.len, x1, x2, hlen1, hve1, hcc1, hcsz1, hext1, hql, c8, hh1, hh2, d0, d1]
                  exact ⟨ls.length - (q + 1), by omega, q + 1, rfl, hql, by rw [hcn, hz]; simp, by omega⟩
                | false =>
                  have hz : lostB l c ls[q] = true := by simp [lostB, b1, b2, b3]
                  simp only [b2] at hh1
                  simp only [b3] at hh2
                  simp -implicitDefEqProofs [e0, e5, e10, e11, e14, e15, e16, e17, hvn8.len, x1, x2, x3, hlen1, hve1, hcc1, hcsz1, hext1, hql, c8, hh1, hh2, d0, d1]
                  exact ⟨ls.length - (q + 1), by omega, q + 1, rfl, hql, by rw [hcn, hz]; simp, by omega⟩
        · exact ⟨0, rfl, Nat.zero_le _, rfl, by simp [e0], by simp [e5], by simp [e10], by simp [e11], by simp [e14], by simp [e15], by simp, by simp⟩
      · have hqe : q = ls.length := by omega
        subst hqe
        rw [List.take_length] at e14
        rcases hlost2 with h0 | h0
        · simp -implicitDefEqProofs [e10, e14, e15, hva8.len, h0]
        · have hc2 : ((ls.filter (lostB l c)).length : Int) ≤ 1 := by omega
          by_cases h00 : (ls.filter (lostB l c)).length = 0
          · simp -implicitDefEqProofs [e10, e14, e15, hva8.len, h00]
          · simp -implicitDefEqProofs [e0, e10, e14, e15, hva8.len, z1, z2, h0, hc2, h00]
    · exact ⟨0, rfl, Nat.zero_le _, rfl, by simp, by simp, by simp, by simp [hve], by simp, by simp⟩
end Go.Proofs.Ytplcocifndpplaa
