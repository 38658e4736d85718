/-
  RmapMoves, RmapApart: the ideal walks.
-/
import Derived.Test.YtcfhhfdkecbphaaRp
namespace Go.Proofs.Ytcfhhfdkecbphaa
open Go Go.Ideal

theorem move_bad {L : List On} {a b : Int} (h : (moveA L a b).1 ≠ 0) : (moveA L a b).2 = L := by
  unfold moveA at *
  split
  · rfl
  · split
    · rfl
    · split
      · rfl
      · rename_i h1 h2 h3
        rw [if_neg h1, if_neg h2, if_neg h3] at h
        exact absurd rfl h
theorem move_ok {L : List On} {n : Nat} (hL : Ok L n) {a b : Int} (h : (moveA L a b).1 = 0) : (0 ≤ b ∧ b < 1024) ∧ spots L a ≠ [] ∧ spots L b = [] ∧ moveA L a b = (0, moveL a b L) ∧ (0 ≤ a ∧ a < 1024) := by
  unfold moveA at *
  by_cases h1 : b < 0 ∨ 1024 ≤ b
  · rw [if_pos h1] at h; simp at h
  · rw [if_neg h1] at h ⊢
    by_cases h2 : spots L a = []
    · rw [if_pos h2] at h; simp at h
    · rw [if_neg h2] at h ⊢
      by_cases h3 : spots L b = []
      · rw [if_neg (by simp [h3])]
        refine ⟨by omega, h2, h3, rfl, ?_⟩
        obtain ⟨s, hs⟩ := List.exists_mem_of_ne_nil _ h2
        have := hL.rng _ (spots_mem.1 hs)
        unfold badA at this
        simp only at this
        omega
      · rw [if_pos h3] at h; simp at h
/-- There and back. -/
theorem move_back {L : List On} {n : Nat} (hL : Ok L n) {a b : Int} (h : (moveA L a b).1 = 0) :
    a ≠ b ∧ spots (moveL a b L) b = spots L a ∧ spots (moveL a b L) a = [] ∧ (moveA (moveL a b L) b a).1 = 0 ∧ (∀ g, spots (moveA (moveL a b L) b a).2 g = spots L g) ∧ Srt (moveA (moveL a b L) b a).2 := by
  obtain ⟨hb, h1, h2, hm, ha⟩ := move_ok hL h
  obtain ⟨hab, k1, k2, k3⟩ := move_spots hL.srt h1 h2
  have e1 : spots (moveL a b L) b = spots L a := by rw [k3, if_pos rfl]
  have e2 : spots (moveL a b L) a = [] := by rw [k3, if_neg hab, if_pos rfl]
  have hm2 : moveA (moveL a b L) b a = (0, moveL b a (moveL a b L)) := by
    unfold moveA
    rw [if_neg (by omega), if_neg (by rw [e1]; exact h1), if_neg (by simp [e2])]
  obtain ⟨_, q1, q2, q3⟩ := move_spots k1 (by rw [e1]; exact h1) e2
  refine ⟨hab, e1, e2, by rw [hm2], fun g => ?_, by rw [hm2]; exact q1⟩
  rw [hm2]
  show spots (moveL b a (moveL a b L)) g = _
  rw [q3]
  by_cases g1 : g = a
  · subst g1; rw [if_pos rfl]; exact e1
  · rw [if_neg g1]
    by_cases g2 : g = b
    · subst g2; rw [if_pos rfl, h2]
    · rw [if_neg g2, k3, if_neg g2, if_neg g1]

theorem spots_step {L : List On} (h : Srt L) (a : ActR) {g : Int} (h1 : g ≠ a.f) (h2 : g ≠ a.t) : spots (stepR L a) g = spots L g := by
  unfold stepR ansR
  split
  · unfold addA
    split
    · rfl
    · split
      · rfl
      · rename_i hm
        rw [spots_ins h hm, if_neg h1]
  · split
    · unfold delA
      split
      · rw [spots_del, if_neg h1]
      · rfl
    · unfold moveA
      split
      · rfl
      · split
        · rfl
        · rename_i q1
          split
          · rfl
          · rename_i q2
            obtain ⟨_, _, _, k3⟩ := move_spots h q1 (Decidable.not_not.1 q2)
            rw [k3, if_neg h2, if_neg h1]

theorem run4 {K : Kont} {fuel : Nat} (hK : TopR K) {w : World} {v : Value} {xs : List ActR} (hv : ActsR w v xs) (a b : Int) : wpGFn Try.prog K fuel 4 g4 #[v, n64 a, n64 b] w fun u _ => u = .bool true := by
  rw [gfn_start]
  simp -implicitDefEqProofs [g4]
  refine valA_of (hK.made hv) (fun u w1 hq => ?_)
  obtain ⟨p, r, x, hu, hB, _⟩ := hq
  simp only at hu hB
  subst hu
  have hok := madeL_ok xs
  generalize madeL xs = L at *
  have hLn := hok.len
  simp -implicitDefEqProofs
  refine valA_of (hK.t.t.m.awake w1) (fun u w2 hq => ?_)
  obtain ⟨hu, hw⟩ := hq
  simp only at hu hw
  subst hu hw
  simp -implicitDefEqProofs
  refine valA_of (hK.t.t.d.d.spots hB.doc (by omega) a) (fun was w3 hq => ?_)
  obtain ⟨hwas, hk3, hn3⟩ := hq
  simp only at hwas hk3 hn3
  have hB3 := hB.keep hk3
  obtain ⟨m, hm3⟩ := hB3.prog
  have hslen := spots_len L a
  have hflen := frames_len L
  have hrw : ∀ j, blkOf was = some j → j ≠ r := fun j hj e => by
    obtain ⟨c, hc⟩ := rowTag hwas hj
    rw [e, hm3.map.nocells] at hc; cases hc
  simp -implicitDefEqProofs
  refine valA_of (hK.t.t.m.move hm3 hok.srt a b) (fun u w4 hq => ?_)
  obtain ⟨hu, ⟨m4, hm4⟩, hk4⟩ := hq
  simp only at hu hm4 hk4
  subst hu
  have hw4 := hwas.keep hk4 hrw
  have hd4 : DocAt w4 x L := hB3.doc.keepT (hm3.keepT (f := 0) (hk4.mono fun j _ h => .inl h))
  have hlw := fun w' => hw4.lenS (w' := w')
  -- the end: the same spots, the same frames
  have fin : ∀ {w5 : World} {m5 : MapL} {M : List On}, MpAt w5 p r m5 M → Srt M → M.length ≤ 1000 → (∀ g, spots M g = spots L g) → DocAt w5 x L → RowE ESp w5 was (spots L a) →
      (K.enter 14 #[pt p, n64 a] w5).all fun z => z.1 ≠ undef ∧ RowE ESp z.2 z.1 (spots L a) ∧ RowE ESp z.2 was (spots L a) ∧ MpAt z.2 p r m5 M ∧ DocAt z.2 x L := fun {w5 m5 M} h1 h2 h3 h4 h5 h6 => by
    refine T.all_mono (fun z hz => ?_) (hK.t.t.m.spots h1 a (by omega))
    obtain ⟨g1, g2⟩ := hz
    rw [h4] at g1
    obtain ⟨vb, vc, e⟩ := g1.shape
    exact ⟨by rw [e]; simp [undef], g1, h6.keep g2 (fun _ _ h => h), h1.keep0 g2, h5.keep g2⟩
  have fin2 : ∀ {w5 : World} {m5 : MapL} {M : List On}, MpAt w5 p r m5 M → Srt M → M.length ≤ 1000 → (∀ g, spots M g = spots L g) → DocAt w5 x L → (K.enter 12 #[pt p] w5).all fun z => RowE (EInt 3) z.2 z.1 (frames L) ∧ DocAt z.2 x L := fun {w5 m5 M} h1 h2 h3 h4 h5 => by
    refine T.all_mono (fun z hz => ?_) (hK.t.t.m.frames h1 h2 (by omega))
    obtain ⟨g1, g2, _⟩ := hz
    rw [frames_eq h2 hok.srt h4] at g1
    exact ⟨g1, h5.keep g2⟩
  by_cases hz : (moveA L a b).1 = 0
  · obtain ⟨hab, e1, e2, e3, e4, e5⟩ := move_back hok hz
    obtain ⟨hbr, hne, _, hA, _⟩ := move_ok hok hz
    obtain ⟨_, k1, k2, _⟩ := move_spots hok.srt hne (move_ok hok hz).2.2.1
    have hl0 : ¬ (spots L a).length = 0 := fun h => hne (List.length_eq_zero_iff.1 h)
    have hl0' : ¬ ((spots L a).length : Int) = 0 := by omega
    rw [hA] at hm4
    simp only at hm4
    simp -implicitDefEqProofs [hz, hab, hlw, hl0, hl0', hne]
    refine valA_of (hK.t.t.m.spots hm4 b (by omega)) (fun u5 w5 hq => ?_)
    obtain ⟨hs5, hk5⟩ := hq
    simp only at hs5 hk5
    rw [e1] at hs5
    have hm5 := hm4.keep0 hk5
    have hw5 := hw4.keep hk5 (fun _ _ h => h)
    have hd5 := hd4.keep hk5
    simp -implicitDefEqProofs
    refine valA_of (hK.t.t.d.same hw5 hs5 (by omega)) (fun u6 w6 hq => ?_)
    obtain ⟨hu, hw⟩ := hq
    simp only [decide_true] at hu hw
    subst hu hw
    simp -implicitDefEqProofs
    refine valA_of (hK.t.t.m.count hm5 a) (fun u7 w7 hq => ?_)
    obtain ⟨hu, hw⟩ := hq
    rw [e2] at hu
    simp only [List.length_nil] at hu hw
    subst hu hw
    simp -implicitDefEqProofs
    refine valA_of (hK.t.t.m.move hm5 k1 b a) (fun u8 w8 hq => ?_)
    obtain ⟨hu, ⟨m8, hm8⟩, hk8⟩ := hq
    simp only at hu hm8 hk8
    rw [e3] at hu
    subst hu
    have hw8 := hw5.keep hk8 hrw
    have hd8 : DocAt w8 x L := hd5.keepT (hm5.keepT (f := 0) (hk8.mono fun j _ h => .inl h))
    have hl8 : (moveA (moveL a b L) b a).2.length ≤ 1000 := by rw [move_len k1, k2]; omega
    simp -implicitDefEqProofs
    refine valA_of (fin hm8 e5 hl8 e4 hd8 hw8) (fun u9 w9 hq => ?_)
    obtain ⟨_, hs9, hw9, hm9, hd9⟩ := hq
    simp only at hs9 hw9 hm9 hd9
    simp -implicitDefEqProofs
    refine valA_of (hK.t.t.d.same hw9 hs9 (by omega)) (fun u10 w10 hq => ?_)
    obtain ⟨hu, hw⟩ := hq
    simp only [decide_true] at hu hw
    subst hu hw
    simp -implicitDefEqProofs
    refine valA_of (fin2 hm9 e5 hl8 e4 hd9) (fun u11 w11 hq => ?_)
    obtain ⟨hf11, hd11⟩ := hq
    simp only at hf11 hd11
    simp -implicitDefEqProofs
    refine valA_of (hK.t.t.d.frames hd11 (by omega)) (fun u12 w12 hq => ?_)
    obtain ⟨hf12, hk12, _⟩ := hq
    simp only at hf12 hk12
    simp -implicitDefEqProofs
    refine valA_of (hK.t.t.d.nums (hf11.keep hk12 (fun _ _ h => h)) hf12 (by omega)) (fun u13 w13 hq => ?_)
    obtain ⟨hu, hw⟩ := hq
    simp only [decide_true] at hu hw
    subst hu hw
    simp -implicitDefEqProofs
  · have hL2 := move_bad hz
    rw [hL2] at hm4
    simp -implicitDefEqProofs [hz]
    refine valA_of (fin hm4 hok.srt (by omega) (fun _ => rfl) hd4 hw4) (fun u9 w9 hq => ?_)
    obtain ⟨_, hs9, hw9, hm9, hd9⟩ := hq
    simp only at hs9 hw9 hm9 hd9
    simp -implicitDefEqProofs
    refine valA_of (hK.t.t.d.same hw9 hs9 (by omega)) (fun u10 w10 hq => ?_)
    obtain ⟨hu, hw⟩ := hq
    simp only [decide_true] at hu hw
    subst hu hw
    simp -implicitDefEqProofs
    refine valA_of (fin2 hm9 hok.srt (by omega) (fun _ => rfl) hd9) (fun u11 w11 hq => ?_)
    obtain ⟨hf11, hd11⟩ := hq
    simp only at hf11 hd11
    simp -implicitDefEqProofs
    refine valA_of (hK.t.t.d.frames hd11 (by omega)) (fun u12 w12 hq => ?_)
    obtain ⟨hf12, hk12, _⟩ := hq
    simp only at hf12 hk12
    simp -implicitDefEqProofs
    refine valA_of (hK.t.t.d.nums (hf11.keep hk12 (fun _ _ h => h)) hf12 (by omega)) (fun u13 w13 hq => ?_)
    obtain ⟨hu, hw⟩ := hq
    simp only [decide_true] at hu hw
    subst hu hw
    simp -implicitDefEqProofs

theorem run5 {K : Kont} {fuel : Nat} (hK : TopR K) {w : World} {v : Value} {xs : List ActR} (hv : ActsR w v xs) (a : ActR) (o : Int) : wpGFn Try.prog K fuel 5 g5 #[v, .agg a.cells, n64 o] w fun u _ => u = .bool true := by
  rw [gfn_start]
  obtain ⟨k, f, t, s, p⟩ := a
  have hkb : Keeps w (World.push w (.cells #[.int .i64 k, .int .i64 f, .int .i64 t, .int .i64 s, .int .i64 p] 29)) (fun _ => False) := Keeps.push _ _ _
  have hb : cellsOf? (World.push w (.cells #[.int .i64 k, .int .i64 f, .int .i64 t, .int .i64 s, .int .i64 p] 29)) w.heap.size = some (#[.int .i64 k, .int .i64 f, .int .i64 t, .int .i64 s, .int .i64 p], 29, (0, 0)) := by simp
  simp -implicitDefEqProofs [g5]
  generalize World.push w _ = w0 at *
  have hv0 := hv.keepX (KeepX.new hkb)
  refine valA_of (hK.made hv0) (fun u w1 hq => ?_)
  obtain ⟨q, r, x, hu, hB, hk1⟩ := hq
  simp only at hu hB hk1
  subst hu
  have hb1 := hk1.2 _ _ _ _ hb (.inr rfl)
  have hok := madeL_ok xs
  have hLn := hok.len
  simp -implicitDefEqProofs
  refine valA_of (hK.t.t.m.awake w1) (fun u w2 hq => ?_)
  obtain ⟨hu, hw⟩ := hq
  simp only at hu hw
  subst hu hw
  by_cases c1 : o = f
  · subst c1
    simp -implicitDefEqProofs [hb1]
  by_cases c2 : o = t
  · subst c2
    simp -implicitDefEqProofs [hb1, c1]
  have hsp := spots_step hok.srt ⟨k, f, t, s, p⟩ (g := o) c1 c2
  have hok2 := hok.step ⟨k, f, t, s, p⟩
  have hL2 := hok2.len
  simp -implicitDefEqProofs [hb1, c1, c2]
  refine valA_of (hK.t.do_ hB hok (by omega) ⟨k, f, t, s, p⟩) (fun u w3 hq => ?_)
  obtain ⟨hu, hB3, hk3⟩ := hq
  simp only at hu hB3 hk3
  simp -implicitDefEqProofs
  refine valA_of (hK.made2 (hv0.keepX (hk1.trans hk3))) (fun u w4 hq => ?_)
  obtain ⟨y, hu, hd4, hk4⟩ := hq
  simp only at hu hd4 hk4
  subst hu
  obtain ⟨m, hm⟩ := hB3.prog
  have hm4 := hm.keep0 hk4
  have hsl := spots_len (madeL xs) o
  simp -implicitDefEqProofs [nilN39]
  refine valA_of (hK.t.t.m.spots hm4 o (by omega)) (fun u5 w5 hq => ?_)
  obtain ⟨hs5, hk5⟩ := hq
  simp only at hs5 hk5
  rw [hsp] at hs5
  simp -implicitDefEqProofs
  refine valA_of (hK.t.t.d.d.spots (hd4.keep hk5) (by omega) o) (fun u6 w6 hq => ?_)
  obtain ⟨hs6, hk6, _⟩ := hq
  simp only at hs6 hk6
  simp -implicitDefEqProofs
  refine valA_of (hK.t.t.d.same (hs5.keep hk6 (fun _ _ h => h)) hs6 (by omega)) (fun u7 w7 hq => ?_)
  obtain ⟨hu, hw⟩ := hq
  simp only [decide_true] at hu hw
  subst hu hw
  simp -implicitDefEqProofs
end Go.Proofs.Ytcfhhfdkecbphaa
