/-
  CpusQuiet: the ideal walk.
-/
import Derived.Test.YtplcocifndpplaaCr
namespace Go.Proofs.Ytplcocifndpplaa
open Go Go.Ideal

theorem holds_selfC (c : Line) : lineHolds c c.s c.p = true := by
  have h1 := size_cases c.o
  simp [lineHolds]
  omega
theorem apart_holdsC {c d : Line} (h : apartL c d) : lineHolds c d.s d.p = false := by
  have h1 := size_cases c.o
  have h2 := size_cases d.o
  unfold apartL at h
  rw [Bool.eq_false_iff]
  simp [lineHolds]
  omega
theorem GoodL.lookC {size : Int} {ls : List Line} (h : GoodL size ls) {q : Nat} (hq : q < ls.length) : lookL ls ls[q].s ls[q].p = some ls[q] := by
  refine find_take hq (fun c hc => ?_) (holds_selfC _)
  obtain ⟨j, hj, rfl⟩ := List.getElem_of_mem hc
  rw [List.length_take] at hj
  rw [List.getElem_take]
  exact apart_holdsC ((List.pairwise_iff_getElem.1 h.apart) j q (by omega) hq (by omega))
theorem line_atC {c : Array Value} {o q : Nat} {l : Line} (hcsz : o + q * 5 + 5 ≤ c.size) (hext : c.extract (o + q * 5) (o + q * 5 + 5) = l.cells) : c[o + q * 5]? = some (i64 l.s) ∧ c[o + q * 5 + 1]? = some (i64 l.p) := by
  constructor
  · have := congrArg (fun a => a[0]?) hext
    simp only [Array.getElem?_extract] at this
    rw [if_pos (by omega)] at this
    exact this
  · have := congrArg (fun a => a[1]?) hext
    simp only [Array.getElem?_extract] at this
    rw [if_pos (by omega)] at this
    exact this
theorem quiet_true {s : CS} {q : Nat} {sp : Int} (h : ∀ j, j < q → s.seen j sp = s.time sp) : quietA s q sp = true := by
  unfold quietA
  rw [List.all_eq_true]
  intro j hj
  simp [h j (List.mem_range.1 hj)]
theorem quiet_seen {s : CS} {q : Nat} {sp : Int} (h : quietA s q sp = true) {j : Nat} (hj : j < q) {c : Line} (hc : c ∈ s.L j) (hs : c.s = sp) : s.seen j sp = s.time sp := by
  unfold quietA at h
  rw [List.all_eq_true] at h
  have := h j (List.mem_range.2 hj)
  simp only [Bool.or_eq_true, decide_eq_true_eq, List.all_eq_true, Bool.not_eq_true', decide_eq_false_iff_not] at this
  rcases this with h1 | h1
  · exact h1
  · exact absurd hs (h1 c hc)
theorem time_of {s t : CS} (h : s.A = t.A) : s.time = t.time := by unfold CS.time; rw [h]
theorem lns_new {w w' : World} {c x C : Nat} {a : Ad} {s t : CS} {r : Rd} (h : Both w c a s x r t C) (hk : Keeps w w' (fun _ => False)) {u : Value} (hb : ∀ j, blockOf u = some j → w.heap.size ≤ j) : ∀ j, blockOf u = some j → ∀ i, i < s.N → ¬ foot w' (a.pb i) j ∧ ¬ foot w' (r.pb i) j := fun j hj i hi => by
  have := hb j hj
  refine ⟨fun hf => ?_, fun hf => ?_⟩
  · have := (h.c.buf i hi).foot_lt (((h.c.keep hk (fun _ _ h => h)).2 i hi j).1 hf); omega
  · have hi' : i < t.N := by rw [h.n]; exact hi
    have := (h.x.buf i hi').foot_lt (((h.x.keep hk (fun _ _ h => h)).2 i hi' j).1 hf); omega

theorem run10 {K : Kont} {fuel : Nat} (hT : TopC K) (hf : 2000 ≤ fuel) {w : World} {v : Value} {xs : List ActC} (hv : ActsC w v xs) (sp : Int) :
    wpGFn Try.prog K fuel 10 g10 #[v, i64 sp] w fun u _ => u = .bool true := by
  rw [gfn_start]
  simp -implicitDefEqProofs [g10]
  refine valA_of (hT.made (n := 3) (size := 5) (by decide) (by decide) hv) (fun u w1 hq => ?_)
  obtain ⟨c, x, hu, ⟨⟨a, r, hB⟩, _⟩⟩ := hq
  simp only at hu hB
  subst hu
  have hs := madeC_ok (n := 3) (size := 5) (by decide) (by decide) hv.1
  have hN := madeC_N 3 5 xs
  generalize madeC 3 5 xs = s at *
  simp -implicitDefEqProofs [nil57, hT.k.a.has.awake28]
  refine valA_of (hT.k.quiet hB.c hs sp) (fun u w2 hq => ?_)
  obtain ⟨hu, hk2⟩ := hq
  simp only at hu hk2
  subst hu
  obtain ⟨hB2, _⟩ := hB.new hk2
  obtain ⟨q0, hq0⟩ : ∃ q0, q0 = quietA s s.N sp := ⟨_, rfl⟩
  rw [← hq0]
  have hqs : q0 = true → ∀ j, j < 3 → ∀ y ∈ s.L j, y.s = sp → s.seen j sp = s.time sp := fun h j hj y hy hys => quiet_seen (s := s) (q := s.N) (by rw [← hq0]; exact h) (by omega) hy hys
  simp -implicitDefEqProofs
  refine loop_go (fun k ρ w' => ∃ (q : Nat) (p d : CS) (r' : Rd), k = 3 - q ∧ q ≤ 3 ∧ ρ 1 = i64 sp ∧ ρ 5 = ptr c ∧ ρ 6 = ptr x ∧ ρ 8 = .bool q0 ∧ ρ 9 = i64 q ∧ Both w' c a p x r' d (10000 + q * 60) ∧ p.N = 3 ∧ p.ok 60 ∧ d.ok 60 ∧ p.A = s.A ∧ d.A = s.A ∧ (∀ j, j < q → p.seen j sp = s.time sp ∧ d.seen j sp = s.time sp) ∧ (q0 = true → ∀ j, q ≤ j → j < 3 → p.L j = s.L j ∧ p.seen j sp = s.seen j sp)) ?_ (i := 3) ?_ (by show 3 < fuel; omega)
  · rintro k ρ w' ⟨q, p, d, r', rfl, hq, e1, e5, e6, e8, e9, hB', hpN, hp, hd, hpA, hdA, hseen, hquiet⟩
    have w1' : IntKind.i64.wrap ((q : Int) + 1) = (q : Int) + 1 := by rw [IntKind.wrap_i64]; omega
    by_cases hq3 : q < 3
    · have hq3' : (q : Int) < 3 := by omega
      have hi : isN p (q : Int) := ⟨by omega, by omega⟩
      have hpq : q < p.N := by omega
      simp -implicitDefEqProofs [e5, e9, hq3']
      refine valA_of (hT.k.lines hB'.c hp (q : Int) hi) (fun u w3 hq => ?_)
      obtain ⟨hl3, hk3, hb3⟩ := hq
      simp only at hl3 hk3 hb3
      rw [Int.toNat_natCast] at hl3
      obtain ⟨hB3, _⟩ := hB'.new hk3
      have hnf := lns_new hB' hk3 hb3
      have hll := hp.ll hpq
      simp -implicitDefEqProofs
      refine loop_go (fun k ρ w' => ∃ (t : Nat) (p' : CS), k = (p.L q).length - t ∧ t ≤ (p.L q).length ∧ ρ 1 = i64 sp ∧ ρ 5 = ptr c ∧ ρ 6 = ptr x ∧ ρ 8 = .bool q0 ∧ ρ 9 = i64 q ∧ ρ 10 = u ∧ ρ 11 = i64 t ∧ Both w' c a p' x r' d (10000 + q * 60) ∧ p'.N = 3 ∧ p'.ok 60 ∧ p'.A = s.A ∧ Lns w' u (p.L q) ∧ (∀ j, blockOf u = some j → ∀ i, i < 3 → ¬ foot w' (a.pb i) j ∧ ¬ foot w' (r'.pb i) j) ∧ (∀ j, j ≠ q → p'.L j = p.L j ∧ p'.seen j sp = p.seen j sp) ∧ (q0 = true → p' = p)) ?_ (i := (p.L q).length) ?_ (by show (p.L q).length < fuel; omega)
      · rintro k2 ρ w4 ⟨t, p', rfl, ht, e1, e5, e6, e8, e9, e10, e11, hB4, hpN', hp', hpA', hl4, hnf4, hoth, hqp⟩
        have w2' : IntKind.i64.wrap ((t : Int) + 1) = (t : Int) + 1 := by rw [IntKind.wrap_i64]; omega
        by_cases htl : t < (p.L q).length
        · have htl' : (t : Int) < (p.L q).length := by omega
          obtain ⟨lb, lo, lcap, lc, hve, hlc, hlsz, hext⟩ := hl4.line htl
          obtain ⟨hl0, hl1⟩ := line_atC hlsz hext
          by_cases hsp : (p.L q)[t].s = sp
          · have hi' : isN p' (q : Int) := ⟨by omega, by omega⟩
            have hpq' : q < p'.N := by omega
            -- a look
            have hlook : (K.enter 30 #[ptr c, i64 q, i64 sp, i64 (p.L q)[t].p] w4).all fun z => ∃ res, z.1 = lookV res ∧ (q0 = true → res = some (p.L q)[t]) ∧ ∃ p2 : CS, Both z.2 c a p2 x r' d (10000 + q * 60) ∧ p2.N = 3 ∧ p2.ok 60 ∧ p2.A = s.A ∧ Lns z.2 u (p.L q) ∧ (∀ j, blockOf u = some j → ∀ i, i < 3 → ¬ foot z.2 (a.pb i) j ∧ ¬ foot z.2 (r'.pb i) j) ∧ (∀ j, j ≠ q → p2.L j = p.L j ∧ p2.seen j sp = p.seen j sp) ∧ (q0 = true → p2 = p) := by
              refine T.all_mono (fun z hz => ?_) (hT.k.look hB4.c hp' (by omega) (q : Int) sp (p.L q)[t].p)
              obtain ⟨hz1, _, mv⟩ := hz
              obtain ⟨hv1, hc1⟩ := hz1 hi'
              rw [Int.toNat_natCast] at hv1 hc1
              obtain ⟨hL, mB⟩ := hB4.left hc1 rfl rfl mv
              rw [hpN'] at mB
              obtain ⟨hl5, hnf5⟩ := mB.lns hl4 hnf4
              have hsame : q0 = true → catchA p' q sp = p := fun h => by
                rw [hqp h, catchA_same]
                obtain ⟨g1, g2⟩ := hquiet h q (Nat.le_refl _) hq3
                rw [g2, time_of hpA]
                exact hqs h q hq3 (p.L q)[t] (by rw [← g1]; exact List.getElem_mem htl) hsp
              refine ⟨_, hv1, fun h => ?_, catchA p' q sp, hL, hpN', hp'.catchA hpq' sp, hpA', hl5, hnf5, fun j hj => ?_, hsame⟩
              · rw [hsame h, ← hsp]; exact (hp.good q hpq).lookC htl
              · rw [catchA_L, if_neg hj, catchA_seen, if_neg (fun e => hj e.1)]; exact hoth j hj
            -- behind it
            have done : ∀ {w6 w7 : World} {p2 : CS}, Both w6 c a p2 x r' d (10000 + q * 60) → p2.N = 3 → Lns w6 u (p.L q) → (∀ j, blockOf u = some j → ∀ i, i < 3 → ¬ foot w6 (a.pb i) j ∧ ¬ foot w6 (r'.pb i) j) → Keeps w6 w7 (fun _ => False) → Both w7 c a p2 x r' d (10000 + q * 60) ∧ Lns w7 u (p.L q) ∧ ∀ j, blockOf u = some j → ∀ i, i < 3 → ¬ foot w7 (a.pb i) j ∧ ¬ foot w7 (r'.pb i) j := fun hB6 hN6 hl6 hn6 hk => by
              obtain ⟨hB7, mB⟩ := hB6.new hk
              rw [hN6] at mB
              obtain ⟨h1, h2⟩ := mB.lns hl6 hn6
              exact ⟨hB7, h1, h2⟩
            have kb : ∀ (w6 : World) (l : Line), Keeps w6 (World.set (World.push w6 (.cells zeroL.cells 31)) w6.heap.size (.cells l.cells 31)) (fun _ => False) := fun w6 l =>
              (Keeps.push w6 _ (fun _ => False)).trans (Keeps.set _ w6.heap.size _ (F := fun j => j = w6.heap.size) (fun _ => rfl)) (fun _ _ h => h) (fun j hj h => by omega)
            cases hqq : q0 with
            | true =>
              have hpp := hqp hqq
              have hbz : behindA p' q sp = 0 := by
                obtain ⟨g1, g2⟩ := hquiet hqq q (Nat.le_refl _) hq3
                have := hqs hqq q hq3 (p.L q)[t] (by rw [← g1]; exact List.getElem_mem htl) hsp
                unfold behindA
                rw [hpp, g2, time_of hpA, this]; omega
              rw [hqq] at e8
              simp -implicitDefEqProofs [e1, e5, e6, e8, e9, e10, e11, htl', hve, hlc, hl0, hl1, hsp, htl]
              refine valA_of (hT.k.behind hB4.c hp' (by omega) (q : Int) sp hi') (fun u5 w5 hq5 => ?_)
              obtain ⟨hu, hw⟩ := hq5
              simp only at hu hw
              subst hu hw
              rw [Int.toNat_natCast, hbz]
              simp -implicitDefEqProofs [e1, e5, e6, e8, e9, e10, e11, htl', hve, hlc, hl0, hl1, hsp, htl]
              refine valA_of hlook (fun u6 w6 hq6 => ?_)
              obtain ⟨res, hu, hres, p2, hB6, hN6, ho6, hA6, hl6, hn6, hot6, hqp6⟩ := hq6
              simp only at hu hB6 hl6 hn6
              have hres := hres hqq
              subst hu hres
              obtain ⟨hB7, hl7, hn7⟩ := done hB6 hN6 hl6 hn6 (kb w6 (p.L q)[t])
              obtain ⟨lb', lo', lcap', lc', hve', hlc', hlsz', hext'⟩ := hl6.line htl
              rw [hve] at hve'
              simp only [Value.slice.injEq, Option.some.injEq, Addr.mk.injEq, and_true, true_and] at hve'
              obtain ⟨⟨rfl, rfl⟩, rfl⟩ := hve'
              have nl : ¬ lb = w6.heap.size := Nat.ne_of_lt (cells_lt hlc')
              simp -implicitDefEqProofs [lookV, Line.val, e1, e5, e6, e8, e9, e10, e11, hve, hlc', hlsz', hext', nl, line_ne, htl, htl', w2']
              exact ⟨(p.L q).length - (t + 1), by omega, t + 1, rfl, htl, by omega, p2, hB7, hN6, ho6, hA6, hve ▸ hl7, hve ▸ hn7, hot6, hqp6 hqq⟩
            | false =>
              rw [hqq] at e8
              simp -implicitDefEqProofs [e1, e5, e6, e8, e9, e10, e11, htl', hve, hlc, hl0, hl1, hsp, htl]
              refine valA_of hlook (fun u6 w6 hq6 => ?_)
              obtain ⟨res, hu, _, p2, hB6, hN6, ho6, hA6, hl6, hn6, hot6, hqp6⟩ := hq6
              simp only at hu hB6 hl6 hn6
              subst hu
              obtain ⟨hB7, hl7, hn7⟩ := done hB6 hN6 hl6 hn6 (kb w6 (res.getD zeroL))
              simp -implicitDefEqProofs [lookV, Line.val, e1, e5, e6, e8, e9, e10, e11, w2']
              exact ⟨(p.L q).length - (t + 1), by omega, t + 1, rfl, htl, hve, by omega, p2, hB7, hN6, ho6, hA6, hve ▸ hl7, hve ▸ hn7, hot6⟩
          · simp -implicitDefEqProofs [e1, e5, e6, e8, e9, e10, e11, htl', hve, hlc, hl0, hsp, htl, w2']
            exact ⟨(p.L q).length - (t + 1), by omega, t + 1, rfl, htl, by omega, p', hB4, hpN', hp', hpA', hve ▸ hl4, hve ▸ hnf4, hoth, hqp⟩
        · have hte : t = (p.L q).length := by omega
          rw [hte] at e11
          have hlenS := fun w' => hl4.len (w' := w')
          have hi' : isN p' (q : Int) := ⟨by omega, by omega⟩
          have hpq' : q < p'.N := by omega
          have hdN : d.N = 3 := by have := hB4.n; omega
          simp -implicitDefEqProofs [e5, e9, e10, e11, hlenS]
          refine valA_of (hT.k.sync hB4.c hp' (by omega) (q : Int)) (fun u5 w5 hq5 => ?_)
          obtain ⟨hu, hc5, mv5⟩ := hq5
          simp only at hu hc5 mv5
          rw [if_pos hi', Int.toNat_natCast] at hc5
          obtain ⟨hB5, _⟩ := hB4.left hc5 rfl rfl mv5
          have hid : isN d (q : Int) := ⟨by omega, by omega⟩
          simp -implicitDefEqProofs [e6, e9]
          refine valA_of (hT.k.xsync hB5.x hd (by omega) (by omega) (q : Int)) (fun u6 w6 hq6 => ?_)
          obtain ⟨hu, ⟨r6, hr6, hx6⟩, mv6⟩ := hq6
          simp only at hu hx6 mv6
          rw [if_pos hid, Int.toNat_natCast] at hx6
          obtain ⟨hB6, _⟩ := hB5.right hx6 hr6 rfl mv6
          have hpt := time_of hpA'
          have hdt := time_of hdA
          simp -implicitDefEqProofs [e1, e5, e6, e8, e9, w1']
          refine ⟨3 - (q + 1), by omega, q + 1, rfl, by omega, by omega, syncA p' q, syncA d q, ⟨r6, by rw [show (q + 1) * 60 = q * 60 + 60 by omega]; exact hB6⟩, hpN', hp'.syncA hpq', hd.syncA (by omega), hpA', hdA, fun j hj => ?_, fun h j hj hj3 => ?_⟩
          · by_cases he : j = q
            · subst he
              refine ⟨?_, ?_⟩
              · show (if j = j then p'.time sp else _) = _
                rw [if_pos rfl, hpt]
              · show (if j = j then d.time sp else _) = _
                rw [if_pos rfl, hdt]
            · obtain ⟨g1, g2⟩ := hseen j (by omega)
              refine ⟨?_, ?_⟩
              · show (if j = q then _ else p'.seen j sp) = _
                rw [if_neg he, (hoth j he).2]; exact g1
              · show (if j = q then _ else d.seen j sp) = _
                rw [if_neg he]; exact g2
          · have he : j ≠ q := by omega
            obtain ⟨g1, g2⟩ := hquiet h j (by omega) hj3
            obtain ⟨g3, g4⟩ := hoth j he
            refine ⟨?_, ?_⟩
            · show (if j = q then _ else p'.L j) = _
              rw [if_neg he, g3, g1]
            · show (if j = q then _ else p'.seen j sp) = _
              rw [if_neg he, g4, g2]
      · rw [hpN] at hnf
        exact ⟨0, p, rfl, Nat.zero_le _, by simp [e1], by simp [e5], by simp [e6], by simp [e8], by simp [e9], by simp, by simp, hB3, hpN, hp, hpA, hl3, hnf, fun j _ => ⟨rfl, rfl⟩, fun _ => rfl⟩
    · have hq3e : q = 3 := by omega
      subst hq3e
      have hdN : d.N = 3 := by have := hB'.n; omega
      simp -implicitDefEqProofs [e1, e5, e6, e9]
      refine valA_of (hT.k.quiet hB'.c hp sp) (fun u5 w5 hq5 => ?_)
      obtain ⟨hu, hk5⟩ := hq5
      simp only at hu hk5
      have hqt : quietA p p.N sp = true := quiet_true fun j hj => by rw [(hseen j (by omega)).1, time_of hpA]
      rw [hqt] at hu
      subst hu
      obtain ⟨hB5, _⟩ := hB'.new hk5
      simp -implicitDefEqProofs [e1, e6]
      refine valA_of (hT.k.xquiet hB5.x hd (by omega) (by omega) sp) (fun u6 w6 hq6 => ?_)
      obtain ⟨hu, hw⟩ := hq6
      simp only at hu hw
      have hqd : quietA d d.N sp = true := quiet_true fun j hj => by rw [(hseen j (by omega)).2, time_of hdA]
      rw [hqd] at hu
      subst hu
      simp -implicitDefEqProofs
  · exact ⟨0, s, s, r, rfl, by omega, by simp, by simp, by simp, by simp, by simp, hB2, hN, hs, hs, rfl, rfl, fun j hj => absurd hj (Nat.not_lt_zero j), fun _ j _ _ => ⟨rfl, rfl⟩⟩
end Go.Proofs.Ytplcocifndpplaa
