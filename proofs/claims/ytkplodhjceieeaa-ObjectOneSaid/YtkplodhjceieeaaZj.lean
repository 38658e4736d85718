/-
  ObjectOne: the ideal walk.
-/
import Derived.Test.YtkplodhjceieeaaZi
import Derived.Test.YtkplodhjceieeaaUm
namespace Go.Proofs.Ytkplodhjceieeaa
open Go Go.Ideal

theorem ObjAt.keepX {w w' : World} {F : Nat → Prop} {b l r : Nat} {pb pf : Int → Nat} {s : OS} (h : ObjAt w b l r pb pf s) (hk : Keeps w w' F) (hF : ∀ j, F j → ∃ c e, cellsOf? w j = some (c, e, (0, 0)) ∧ e ≠ 81 ∧ e ≠ 85) : ObjAt w' b l r pb pf s := by
  have nm : ∀ {q : Nat} {m : MapL}, MapAt w q m → ¬ F q := fun hm hj => by
    obtain ⟨c, e, h3, _⟩ := hF _ hj
    rw [hm.nocells] at h3; cases h3
  have nc : ∀ {j c e fz}, cellsOf? w j = some (c, e, fz) → e = 81 ∨ e = 85 → ¬ F j := fun hc he hj => by
    obtain ⟨c', e', h3, h4, h5⟩ := hF _ hj
    rw [hc] at h3
    simp only [Option.some.injEq, Prod.mk.injEq] at h3
    rw [h3.2.1] at he
    exact he.elim h4 h5
  refine ⟨hk.cells h.cell (nc h.cell (.inl rfl)), ?_, ?_, fun id hl => hk.cells (h.obj id hl) (nc (h.obj id hl) (.inr rfl)), fun id hl => ?_, h.inj, h.injf, h.ne, h.nef⟩
  · obtain ⟨m, h1, h2⟩ := h.ml; exact ⟨m, h1.keep hk (nm h1), h2⟩
  · obtain ⟨m, h1, h2⟩ := h.mo; exact ⟨m, h1.keep hk (nm h1), h2⟩
  · obtain ⟨m, h1, h2⟩ := h.frs id hl; exact ⟨m, h1.keep hk (nm h1), h2⟩

/-- The frames that were met. -/
def Met (w : World) (m : Nat) (p : Int → Prop) : Prop := ∃ c, cellsOf? w m = some (c, 4, (0, 0)) ∧ c.size = 1024 ∧ ∀ i : Nat, i < 1024 → ∃ t, c[i]? = some (.bool t) ∧ (t = true → p i)

set_option maxRecDepth 20000 in
theorem run5 {K : Kont} {fuel : Nat} (hT : TopO K) (hf : 4000 ≤ fuel) {w : World} {v : Value} {xs : List ActO} (hv : ActsO w v xs) (hz : Froz w v) : wpGFn Try.prog K fuel 5 g5 #[v] w fun u _ => u = .bool true := by
  rw [gfn_start]
  simp -implicitDefEqProofs [g5]
  refine valA_of (hT.made hv hz) (fun u w1 hq => ?_)
  obtain ⟨b, l, r, x, hu, hB1, _⟩ := hq
  simp only at hu hB1
  subst hu
  have hs := made_ok xs
  generalize madeO xs = s at *
  obtain ⟨pb, pf, vh, vl, hp, hq⟩ := hB1
  simp -implicitDefEqProofs
  refine valA_of (hT.o.awake _) (fun u w2 hq2 => ?_)
  obtain ⟨hu, hw⟩ := hq2
  simp only at hu hw
  subst hu hw
  have hlen := hs.len
  simp -implicitDefEqProofs
  obtain ⟨i0, hi, hz0, hsz0, hby⟩ := info4
  refine valA_of (R := fun z => z.1 = .slice (some ⟨w2.heap.size, 0, none⟩) 1024 1024 ∧ z.2 = World.push w2 (.cells (Array.replicate 1024 (.bool false)) 4)) (make_go (P := Try.prog) (n := 1024) (by kernel_rfl) hi hz0 rfl hsz0 rfl (by omega) (by omega) (by omega) ⟨rfl, rfl⟩) (fun u w3 hq3 => ?_)
  obtain ⟨hu, hw3⟩ := hq3
  simp only at hu hw3
  have kp : Keeps w2 w3 (fun _ => False) := by rw [hw3]; exact Keeps.push _ _ _
  have hm3 : Met w3 w2.heap.size (fun k => ∃ o, ownA s k = some o ∧ o.id < 0) := by
    refine ⟨Array.replicate 1024 (.bool false), by rw [hw3]; simp, by simp, fun i hi => ⟨false, by simp [hi], by simp⟩⟩
  have hp3 := hp.keep kp
  have hr3 := hq.keep kp (fun _ _ h => h)
  have hold : ∀ j, MvO x vh vl j → j < w2.heap.size := fun j hj => by
    obtain ⟨c, e, hc, _⟩ := mvO_cells hq hj
    exact cells_lt hc
  clear hw3
  subst hu
  generalize hmm : w2.heap.size = m at *
  simp -implicitDefEqProofs
  refine loop_go (fun i ρ w' => ∃ (q : Nat), i = s.held.length - q ∧ q ≤ s.held.length ∧ ObjAt w' b l r pb pf s ∧ RefO w' x vh vl s ∧ Met w' m (fun k => ∃ o, ownA s k = some o ∧ o.id < (q : Int)) ∧ ρ 3 = pt b ∧ ρ 4 = pt x ∧ ρ 6 = .slice (some ⟨m, 0, none⟩) 1024 1024 ∧ ρ 7 = n64 q) ?_ (i := s.held.length) ?_ (by show s.held.length < fuel; omega)
  · rintro i ρ w' ⟨q, rfl, hq3, hp', hr', hmet, e3, e4, e6, e7⟩
    have w1' : IntKind.i64.wrap ((q : Int) + 1) = (q : Int) + 1 := by rw [IntKind.wrap_i64]; omega
    by_cases hlt : q < s.held.length
    · have hlt' : (q : Int) < s.held.length := by omega
      simp -implicitDefEqProofs [e3, e4, e7, hr'.cell, hr'.held.lenS, hlt', hlt]
      refine valA_of (hT.o.r.frames hp'.r hs q) (fun vr w4 hq4 => ?_)
      obtain ⟨hrow, hk4, hb4⟩ := hq4
      simp only at hrow hk4 hb4
      have hmlt : m < w'.heap.size := by obtain ⟨c, hc, _⟩ := hmet; exact cells_lt hc
      have hrm : ¬ blkOf vr = some m := fun e => by have := hb4 m e; omega
      have hfl : (framesA s q).length ≤ 1024 := free_len _
      have hsort : (framesA s q).Pairwise (· < ·) := atN_sorted _ _ _
      have hmet4 : Met w4 m (fun k => (∃ o, ownA s k = some o ∧ o.id < (q : Int)) ∨ k ∈ (framesA s q).take 0) := by
        obtain ⟨c, h1, h2, h3⟩ := hmet
        refine ⟨c, hk4.cells h1 (fun h => h), h2, fun i hi => ?_⟩
        obtain ⟨t, h4, h5⟩ := h3 i hi
        exact ⟨t, h4, fun e => .inl (h5 e)⟩
      simp -implicitDefEqProofs
      refine loop_go (fun i ρ w' => ∃ (p : Nat), i = (framesA s q).length - p ∧ p ≤ (framesA s q).length ∧ ObjAt w' b l r pb pf s ∧ RefO w' x vh vl s ∧ RowE (EInt 3) w' vr (framesA s q) ∧ Met w' m (fun k => (∃ o, ownA s k = some o ∧ o.id < (q : Int)) ∨ k ∈ (framesA s q).take p) ∧ ρ 3 = pt b ∧ ρ 4 = pt x ∧ ρ 6 = .slice (some ⟨m, 0, none⟩) 1024 1024 ∧ ρ 7 = n64 q ∧ ρ 8 = vr ∧ ρ 9 = n64 p) ?_ (i := (framesA s q).length) ?_ (by show (framesA s q).length < fuel; omega)
      · rintro i ρ w5 ⟨p, rfl, hpq, hp5, hr5, hrow5, hmet5, e3, e4, e6, e7, e8, e9⟩
        have w2' : IntKind.i64.wrap ((p : Int) + 1) = (p : Int) + 1 := by rw [IntKind.wrap_i64]; omega
        by_cases hpl : p < (framesA s q).length
        · have hpl' : (p : Int) < (framesA s q).length := by omega
          obtain ⟨bb, oo, cap, c, t0, z0, hve, hc, hsz, _, ha⟩ := hrow5.src.at hpl
          have a0 := ha 0 Nat.one_pos
          simp only [EInt, Nat.mul_one, Nat.add_zero, List.getElem?_cons_zero] at a0
          have hmem : (framesA s q)[p] ∈ framesA s q := List.getElem_mem hpl
          obtain ⟨⟨f0, f1⟩, o, hoo, hoid⟩ := frames_mem.1 hmem
          obtain ⟨n, hn⟩ : ∃ n : Nat, (framesA s q)[p] = n := ⟨((framesA s q)[p]).toNat, by omega⟩
          have hnl : n < 1024 := by omega
          have hn3 : n ≤ 1023 := by omega
          have hn0 : ¬ (n : Int) < 0 := by omega
          have hn2 : (n : Int) < 1024 := by omega
          rw [hn] at a0 hoo
          obtain ⟨ho1, ho2⟩ := own_some hoo
          have hpt : pageT s o.id o.page = .tuple #[n64 n, n64 0] := by
            unfold pageT
            rw [if_pos (hs.on o ho1).1, page_of hs ho1]
            simp [ho2]
          obtain ⟨c2, hc2, hcs2, hall2⟩ := hmet5
          obtain ⟨tt, ht1, ht2⟩ := hall2 n hnl
          have hnot : ∀ j (hj : j < (framesA s q).length), j < p → (framesA s q)[j] < (n : Int) := fun j hj hjp => by
            rw [← hn]
            exact List.pairwise_iff_getElem.1 hsort j p hj hpl hjp
          have htf : tt = false := by
            cases tt with
            | false => rfl
            | true =>
              rcases ht2 rfl with ⟨o', g1, g2⟩ | g
              · rw [hoo] at g1
                simp only [Option.some.injEq] at g1
                rw [← g1] at g2
                omega
              · obtain ⟨j, hj, he⟩ := List.getElem_of_mem g
                have hj2 : j < p := by rw [List.length_take] at hj; omega
                have hj3 : j < (framesA s q).length := by omega
                rw [List.getElem_take] at he
                have := hnot j hj3 hj2
                omega
          subst htf
          have hget2 : c2[n]'(by omega) = .bool false := by
            rw [Array.getElem?_eq_getElem (by omega)] at ht1
            exact Option.some.inj ht1
          simp -implicitDefEqProofs [e3, e8, e9, hrow5.lenS, hpl', hve, hc, a0, hpl]
          refine valA_of (hT.o.r.o.own hp5 n) (fun u w6 hq6 => ?_)
          obtain ⟨hu, hk6⟩ := hq6
          simp only at hu hk6
          subst hu
          have hp6 := hp5.keep hk6
          have hc6 := hk6.cells hc (fun h => h)
          have hm6 := hk6.cells hc2 (fun h => h)
          have hr6 := hr5.keep hk6 (fun _ _ h => h)
          have hrow6 := hrow5.keep hk6 (fun _ _ h => h)
          have hml6 := cells_lt hm6
          simp -implicitDefEqProofs [hoo, ownT, e3]
          refine valA_of (hT.o.page hp6 o.id o.page) (fun u w7 hq7 => ?_)
          obtain ⟨hu, hw⟩ := hq7
          simp only at hu hw
          subst hu hw
          have km : Keeps w7 (World.set w7 m (.cells (c2.setIfInBounds n (.bool true)) 4)) (fun j => j = m) := Keeps.set _ _ _ (fun _ => rfl)
          have hbm : ¬ bb = m := fun e => hrm (by rw [hve, e]; rfl)
          have fin : ObjAt (World.set w7 m (.cells (c2.setIfInBounds n (.bool true)) 4)) b l r pb pf s ∧ RefO (World.set w7 m (.cells (c2.setIfInBounds n (.bool true)) 4)) x vh vl s ∧ RowE (EInt 3) (World.set w7 m (.cells (c2.setIfInBounds n (.bool true)) 4)) vr (framesA s q) ∧ Met (World.set w7 m (.cells (c2.setIfInBounds n (.bool true)) 4)) m (fun k => (∃ o, ownA s k = some o ∧ o.id < (q : Int)) ∨ k ∈ (framesA s q).take (p + 1)) := by
            refine ⟨hp6.keepX km (fun j hj => ⟨c2, 4, by rw [hj]; exact hm6, by decide, by decide⟩), hr6.keep km (fun j hj e => by have := hold j hj; omega), hrow6.keep km (fun j hj e => hrm (by rw [hj, e])), ?_⟩
            refine ⟨c2.setIfInBounds n (.bool true), by simp [hml6], by simp [hcs2], fun i hi => ?_⟩
            rw [List.take_succ_eq_append_getElem hpl]
            by_cases hin : n = i
            · subst hin
              exact ⟨true, by simp [hcs2, hi], fun _ => .inr (by rw [hn]; simp)⟩
            · obtain ⟨t, h3, h4⟩ := hall2 i hi
              refine ⟨t, by rw [Array.getElem?_setIfInBounds_ne hin]; exact h3, fun e => ?_⟩
              rcases h4 e with g | g
              · exact .inl g
              · exact .inr (List.mem_append_left _ g)
          have hoid' : o.id = (q : Int) := hoid
          obtain ⟨fin1, fin2, fin3, fin4⟩ := fin
          have hpt2 : pageT s (q : Int) o.page = .tuple #[n64 n, n64 0] := by rw [← hoid']; exact hpt
          cases p with
          | zero =>
            simp at a0
            simp -implicitDefEqProofs [hpt2, e6, e7, e8, e9, hve, hc6, a0, hpl, hm6, hcs2, hnl, hn0, hn2, hn3, hget2, hoid', w2', hml6, hbm]
            exact ⟨(framesA s q).length - (0 + 1), by omega, 0 + 1, rfl, by omega, fin1, fin2, by rw [← hve]; exact fin3, fin4, e3, e4, rfl⟩
          | succ p' =>
            have hpl2 : p' < (framesA s q).length := by omega
            have hpl3 : (p' : Int) < (framesA s q).length := by omega
            obtain ⟨bb', oo', cap', c', t', z', hve', hc', _, _, ha'⟩ := hrow5.src.at hpl2
            rw [hve] at hve'
            simp only [Value.slice.injEq, Option.some.injEq, Addr.mk.injEq, and_true, true_and] at hve'
            obtain ⟨⟨rfl, rfl⟩, rfl⟩ := hve'
            rw [hc] at hc'
            simp only [Option.some.injEq, Prod.mk.injEq] at hc'
            obtain ⟨rfl, rfl, rfl⟩ := hc'
            have b0 := ha' 0 Nat.one_pos
            simp only [EInt, Nat.mul_one, Nat.add_zero, List.getElem?_cons_zero] at b0
            have hls := hnot p' hpl2 (by omega)
            have hle : ¬ (n : Int) ≤ (framesA s q)[p'] := by omega
            have wm1 : IntKind.i64.wrap (p' : Int) = p' := by rw [IntKind.wrap_i64]; omega
            have hpp : ¬ (p' : Int) + 1 ≤ 0 := by omega
            have hp4 : (0 : Int) < (p' : Int) + 1 := by omega
            have hp5' : (0 : Int) ≤ (p' : Int) + 1 := by omega
            have hp6' : (p' : Int) + 1 < (framesA s q).length := by omega
            have w3' : IntKind.i64.wrap ((p' : Int) + 1 + 1) = (p' : Int) + 1 + 1 := by rw [IntKind.wrap_i64]; omega
            simp -implicitDefEqProofs [hp5', hp6', w3', hpt2, e6, e7, e8, e9, hve, hc6, a0, b0, hpl, hpl2, hpl3, hm6, hcs2, hnl, hn0, hn2, hn3, hget2, hoid', w2', hml6, hbm, hle, wm1, hpp, hp4]
            exact ⟨(framesA s q).length - (p' + 1 + 1), by omega, p' + 1 + 1, rfl, by omega, fin1, fin2, by rw [← hve]; exact fin3, fin4, e3, e4, by omega⟩
        · have hpe : p = (framesA s q).length := by omega
          subst hpe
          rw [List.take_length] at hmet5
          simp -implicitDefEqProofs [e7, e8, e9, hrow5.lenS, w1']
          refine ⟨s.held.length - (q + 1), by omega, q + 1, rfl, by omega, hp5, hr5, ?_, e3, e4, e6, by omega⟩
          obtain ⟨c, h1, h2, h3⟩ := hmet5
          refine ⟨c, h1, h2, fun i hi => ?_⟩
          obtain ⟨t, h4, h5⟩ := h3 i hi
          refine ⟨t, h4, fun e => ?_⟩
          rcases h5 e with ⟨o, g1, g2⟩ | g
          · exact ⟨o, g1, by omega⟩
          · obtain ⟨_, o, g1, g2⟩ := frames_mem.1 g
            exact ⟨o, g1, by omega⟩
      · exact ⟨0, by omega, Nat.zero_le _, hp'.keep hk4, hr'.keep hk4 (fun _ _ h => h), hrow, hmet4, by simp [e3], by simp [e4], by simp [e6], by simp [e7], by simp, by simp⟩
    · have hqe : q = s.held.length := by omega
      subst hqe
      simp -implicitDefEqProofs [e4, e7, hr'.cell, hr'.held.lenS]
  · exact ⟨0, by omega, Nat.zero_le _, hp3, hr3, hm3, by simp, by simp, by simp, by simp⟩
end Go.Proofs.Ytkplodhjceieeaa
