/-
  Rmap: Add, Del, Move, Spots, Count, New.
-/
import Derived.Test.YtcfhhfdkecbphaaRh
namespace Go.Proofs.Ytcfhhfdkecbphaa
open Go Go.Ideal

/-- What a call leaves. -/
def RTo (w w' : World) (b r : Nat) (L : List On) : Prop := (∃ m, MpAt w' b r m L) ∧ KeepT w w'

theorem run7 {K : Kont} {fuel : Nat} {w : World} : wpGFn Try.prog K fuel 7 g7 #[] w fun v w' => ∃ b r, v = pt b ∧ MpAt w' b r [] [] ∧ Keeps w w' (fun _ => False) := by
  rw [gfn_start]
  simp -implicitDefEqProofs [g7, fillS, Instr.fill]
  refine ⟨⟨w.heap.size, ?_⟩, (Keeps.push w _ (fun _ => False)).trans (Keeps.push _ _ (fun _ => False)) (fun _ _ h => h) (fun _ _ h => h)⟩
  refine ⟨by simp, (MapAt.push w).keep (Keeps.push _ _ (fun _ => False)) (fun h => h), fun f => ⟨fun _ => rfl, fun _ => rfl⟩, (fun f v h => by cases h), fun f g v u j h => by cases h⟩

theorem run13 {K : Kont} {fuel : Nat} {w : World} {b r : Nat} {m : MapL} {L : List On} (hp : MpAt w b r m L) (f : Int) : wpGFn Try.prog K fuel 13 g13 #[pt b, n64 f] w fun v w' => v = n64 (spots L f).length ∧ w' = w := by
  rw [gfn_start]
  have hl := fun w' => (hp.rowAt f).lenS (w' := w')
  simp -implicitDefEqProofs [g13, nil23, hp.cell, lookR hp.map, hl]

theorem run14 {K : Kont} {fuel : Nat} {w : World} {b r : Nat} {m : MapL} {L : List On} (hp : MpAt w b r m L) (f : Int) (hn : L.length ≤ 900000) : wpGFn Try.prog K fuel 14 g14 #[pt b, n64 f] w fun v w' => RowE ESp w' v (spots L f) ∧ Keeps w w' (fun _ => False) := by
  rw [gfn_start]
  have hk : Keeps w (World.push w (.cells #[] 27)) (fun _ => False) := Keeps.push _ _ _
  have hp' := hp.keep0 hk
  have hc' := hp'.cell
  have hlk := lookR hp'.map f
  have hr := hp'.rowAt f
  have hrow : rowS 27 2 0 #[] [] w = .ret (.slice (some ⟨w.heap.size, 0, none⟩) 0 0, World.push w (.cells #[] 27)) := rfl
  have he : RowE ESp (World.push w (.cells #[] 27)) (.slice (some ⟨w.heap.size, 0, none⟩) 0 0) [] := RowE.empty (c := #[]) (by simp; rfl)
  have hsl := spots_len L f
  have hbn : ¬ b = w.heap.size := Nat.ne_of_lt (cells_lt hp.cell)
  simp -implicitDefEqProofs [g14, nil23, hrow, hbn, hp.cell, hlk]
  generalize World.push w (.cells #[] 27) = w1 at *
  refine appE (E := ESp) (by_ := 16) he hr.src (by simp; omega) (by decide) (fun v4 w4 hr4 hk4 _ _ => ?_)
  simp -implicitDefEqProofs
  exact ⟨hr4, hk.trans hk4 (fun _ _ h => h) (fun j hj h => by simp at h; omega)⟩

theorem row_ne {w : World} {b r : Nat} {m : MapL} {L : List On} (hp : MpAt w b r m L) (f : Int) : blkOf (rowOf m f) ≠ some b := fun h => by
  obtain ⟨c, hc⟩ := rowTag (hp.rowAt f) h
  rw [hp.cell] at hc
  simp only [Option.some.injEq, Prod.mk.injEq, ESp] at hc
  exact absurd hc.2.1 (by decide)

theorem run9 {K : Kont} {fuel : Nat} (hS : Srch K) (hI : Ins K) {w : World} {b r : Nat} {m : MapL} {L : List On} (hp : MpAt w b r m L) (hL : Srt L) (hn : L.length ≤ 800000) (f : Int) (s : Sp) :
    wpGFn Try.prog K fuel 9 g9 #[pt b, n64 f, spV s] w fun v w' => v = n64 (addA L f s).1 ∧ RTo w w' b r (addA L f s).2 := by
  rw [gfn_start]
  obtain ⟨s1, s2⟩ := s
  have hk : Keeps w (World.push w (.cells #[.int .i64 s1, .int .i64 s2] 27)) (fun _ => False) := Keeps.push _ _ _
  have hb1 : cellsOf? (World.push w (.cells #[.int .i64 s1, .int .i64 s2] 27)) w.heap.size = some (#[.int .i64 s1, .int .i64 s2], 27, (0, 0)) := by simp
  have hp1 := hp.keep0 hk
  have hbn : ¬ b = w.heap.size := Nat.ne_of_lt (cells_lt hp.cell)
  have hlk := lookR hp1.map f
  have bad : badA f (s1, s2) → (3 : Int) = (addA L f (s1, s2)).1 ∧ RTo w (World.push w (.cells #[.int .i64 s1, .int .i64 s2] 27)) b r (addA L f (s1, s2)).2 := fun h => by
    unfold addA; rw [if_pos h]; exact ⟨rfl, ⟨m, hp1⟩, KeepT.of0 hk⟩
  by_cases c1 : f < 0
  · simp -implicitDefEqProofs [g9, nil23, c1]
    exact bad (.inl c1)
  by_cases c2 : 1024 ≤ f
  · simp -implicitDefEqProofs [g9, nil23, c1, c2]
    exact bad (.inr (.inl c2))
  have c2' : f < 1024 := by omega
  by_cases c3 : s1 < 0
  · simp -implicitDefEqProofs [g9, nil23, c1, c2, c2', c3]
    exact bad (.inr (.inr (.inl c3)))
  by_cases c4 : s2 < 0
  · simp -implicitDefEqProofs [g9, nil23, c1, c2, c2', c3, c4]
    exact bad (.inr (.inr (.inr (.inl c4))))
  by_cases c5 : 4096 ≤ s2
  · simp -implicitDefEqProofs [g9, nil23, c1, c2, c2', c3, c4, c5]
    exact bad (.inr (.inr (.inr (.inr c5))))
  have c5' : s2 < 4096 := by omega
  have hnb : ¬ badA f (s1, s2) := by unfold badA; simp only; omega
  have hrow := hp1.rowAt f
  have hsl := spots_len L f
  have hsrt := spots_srt hL f
  simp -implicitDefEqProofs [g9, nil23, c1, c2, c2', c3, c4, c5, c5', hbn, hp.cell, hlk]
  generalize hw1 : World.push w (.cells #[.int .i64 s1, .int .i64 s2] 27) = w1 at *
  refine valA_of (hS.go hrow hsrt (by omega) (s1, s2)) (fun u w2 hq => ?_)
  obtain ⟨hu, hk2⟩ := hq
  simp only at hu hk2
  subst hu
  have hp2 := hp1.keep0 hk2
  have hb2 := hk2.cells hb1 (fun h => h)
  have hkw2 := hk.trans hk2 (H := fun _ => False) (fun _ _ h => h) (fun _ _ h => h)
  by_cases hm : (f, s1, s2) ∈ L
  · have hm2 : (s1, s2) ∈ spots L f := spots_mem.2 hm
    simp -implicitDefEqProofs [hm2, addA, hnb, hm]
    exact ⟨⟨m, hp2⟩, KeepT.of0 hkw2⟩
  · have hm2 : ¬ (s1, s2) ∈ spots L f := fun h => hm (spots_mem.1 h)
    have h27 := row27 (s1, s2) w2
    simp only at h27
    have hk3 : Keeps w2 (World.push w2 (.cells #[.int .i64 s1, .int .i64 s2] 27)) (fun _ => False) := Keeps.push _ _ _
    have hb3 : cellsOf? (World.push w2 (.cells #[.int .i64 s1, .int .i64 s2] 27)) w2.heap.size = some (#[.int .i64 s1, .int .i64 s2], 27, (0, 0)) := by simp
    have hp3 := hp2.keep0 hk3
    have hb23 := hk3.cells hb2 (fun h => h)
    have hc3 := hp3.cell
    simp -implicitDefEqProofs [hm2, hp2.cell, hb2, h27, hc3]
    generalize hw3 : World.push w2 (.cells #[.int .i64 s1, .int .i64 s2] 27) = w3 at *
    have hkw3 := hkw2.trans hk3 (H := fun _ => False) (fun _ _ h => h) (fun _ _ h => h)
    have hne : blkOf (rowOf m f) ≠ some w2.heap.size := fun h => by
      have := (hp2.rowAt f).block_lt h; omega
    refine valA_of (hI.go (s := (s1, s2)) (hp3.rowAt f) (by omega) (pos_le (s1, s2) (spots L f)) hb3 hne) (fun u w4 hq4 => ?_)
    obtain ⟨hr4, hk4, hu4⟩ := hq4
    simp only at hr4 hk4 hu4
    have hkW : Keeps w3 w4 (Wr r m f) := hk4.mono fun j _ h => .inr h
    have hc4 := hp3.cellW hkW
    have hmap4 : MapAt w4 r m := hp3.map.keep hk4 (fun h => by
      obtain ⟨c, hc⟩ := rowTag (hp3.rowAt f) h
      rw [hp3.map.nocells] at hc; cases hc)
    simp -implicitDefEqProofs [hc4]
    refine updateA hmap4 (fun es n hma => ?_)
    have hk5 : Keeps w4 (World.set w4 r (.map es n)) (fun j => j = r) := Keeps.set _ _ _ (fun _ => rfl)
    have hL' : (addA L f (s1, s2)) = (0, insO (f, s1, s2) L) := by unfold addA; rw [if_neg hnb, if_neg hm]
    have hsp := fun g => spots_ins hL hm g
    have hput : MpAt (World.set w4 r (.map es n)) b r (putM m f u) (insO (f, s1, s2) L) := by
      refine hp3.put (hkW.trans hk5 (fun _ _ h => h) (fun j _ h => .inl h)) hma ?_ ?_ (fun g hg => by rw [hsp g, if_neg hg]) (fun j hj => by rw [hu4] at hj; simp at hj; omega)
      · rw [hsp f, if_pos rfl, insP_pos]
        exact hr4.keep hk5 fun j hj e => by
          rw [hu4] at hj
          simp at hj
          have := hp3.map.lt
          omega
      · rw [hsp f, if_pos rfl, insP_pos]; simp
    simp -implicitDefEqProofs [hL']
    exact ⟨⟨_, hput⟩, (KeepT.of0 hkw3).trans (hp3.keepT (hkW.trans hk5 (fun _ _ h => h) (fun j _ h => .inl h)))⟩

theorem run10 {K : Kont} {fuel : Nat} (hS : Srch K) (hI : Ins K) {w : World} {b r : Nat} {m : MapL} {L : List On} (hp : MpAt w b r m L) (hL : Srt L) (hn : L.length ≤ 800000) (f : Int) (s : Sp) :
    wpGFn Try.prog K fuel 10 g10 #[pt b, n64 f, spV s] w fun v w' => v = n64 (delA L f s).1 ∧ RTo w w' b r (delA L f s).2 := by
  rw [gfn_start]
  obtain ⟨s1, s2⟩ := s
  have hk : Keeps w (World.push w (.cells #[.int .i64 s1, .int .i64 s2] 27)) (fun _ => False) := Keeps.push _ _ _
  have hb1 : cellsOf? (World.push w (.cells #[.int .i64 s1, .int .i64 s2] 27)) w.heap.size = some (#[.int .i64 s1, .int .i64 s2], 27, (0, 0)) := by simp
  have hp1 := hp.keep0 hk
  have hbn : ¬ b = w.heap.size := Nat.ne_of_lt (cells_lt hp.cell)
  have hlk := lookR hp1.map f
  have hrow := hp1.rowAt f
  have hsl := spots_len L f
  have hsrt := spots_srt hL f
  have hlen := fun w' => hrow.lenS (w' := w')
  simp -implicitDefEqProofs [g10, nil23, hbn, hp.cell, hlk]
  generalize hw1 : World.push w (.cells #[.int .i64 s1, .int .i64 s2] 27) = w1 at *
  refine valA_of (hS.go hrow hsrt (by omega) (s1, s2)) (fun u w2 hq => ?_)
  obtain ⟨hu, hk2⟩ := hq
  simp only at hu hk2
  subst hu
  have hp2 := hp1.keep0 hk2
  have hkw2 := hk.trans hk2 (H := fun _ => False) (fun _ _ h => h) (fun _ _ h => h)
  have hc2 := hp2.cell
  by_cases hm : (f, s1, s2) ∈ L
  · have hm2 : (s1, s2) ∈ spots L f := spots_mem.2 hm
    have hL' : delA L f (s1, s2) = (0, delO (f, s1, s2) L) := by unfold delA; rw [if_pos hm]
    obtain ⟨hpl, _⟩ := (pos_mem hsrt).1 hm2
    have hsd := fun g => spots_del (f := f) (s := (s1, s2)) L g
    have hdp := del_pos hsrt hm2
    by_cases h1 : (spots L f).length = 1
    · simp -implicitDefEqProofs [hm2, hlen, h1, hc2]
      refine deleteA hp2.map (fun es n hma => ?_)
      have hk5 : Keeps w2 (World.set w2 r (.map es n)) (fun j => j = r) := Keeps.set _ _ _ (fun _ => rfl)
      have hkW : Keeps w2 (World.set w2 r (.map es n)) (Wr r m f) := hk5.mono fun j _ h => .inl h
      have hput := hp2.del (L' := delO (f, s1, s2) L) hkW hma (by
        rw [hsd f, if_pos rfl, hdp]
        have : pos (s1, s2) (spots L f) = 0 := by omega
        rw [this, List.take_zero, List.nil_append, List.drop_of_length_le (by omega)]) (fun g hg => by rw [hsd g, if_neg hg])
      simp -implicitDefEqProofs [hL']
      exact ⟨⟨_, hput⟩, (KeepT.of0 hkw2).trans (hp2.keepT hkW)⟩
    · have h1' : ¬ ((spots L f).length : Int) = 1 := by omega
      have x1 : IntKind.i64.wrap ((pos (s1, s2) (spots L f) : Int) + 1) = (pos (s1, s2) (spots L f) : Int) + 1 := by rw [IntKind.wrap_i64]; omega
      simp -implicitDefEqProofs [hm2, hlen, h1, h1', hc2, x1]
      refine valA_of (hI.del (hp2.rowAt f) (by omega) hpl) (fun u w4 hq4 => ?_)
      obtain ⟨hr4, hk4, hu4⟩ := hq4
      simp only at hr4 hk4 hu4
      have hkW : Keeps w2 w4 (Wr r m f) := hk4.mono fun j _ h => .inr h
      have hc4 := hp2.cellW hkW
      have hmap4 : MapAt w4 r m := hp2.map.keep hk4 (fun h => by
        obtain ⟨c, hc⟩ := rowTag (hp2.rowAt f) h
        rw [hp2.map.nocells] at hc; cases hc)
      simp -implicitDefEqProofs [hc4]
      refine updateA hmap4 (fun es n hma => ?_)
      have hk5 : Keeps w4 (World.set w4 r (.map es n)) (fun j => j = r) := Keeps.set _ _ _ (fun _ => rfl)
      have hput : MpAt (World.set w4 r (.map es n)) b r (putM m f u) (delO (f, s1, s2) L) := by
        refine hp2.put (hkW.trans hk5 (fun _ _ h => h) (fun j _ h => .inl h)) hma ?_ ?_ (fun g hg => by rw [hsd g, if_neg hg]) (fun j hj => by rw [hu4] at hj; simp at hj; omega)
        · rw [hsd f, if_pos rfl, hdp]
          exact hr4.keep hk5 fun j hj e => by
            rw [hu4] at hj
            simp at hj
            have := hp2.map.lt
            omega
        · rw [hsd f, if_pos rfl, hdp]
          intro e
          have := congrArg List.length e
          rw [List.length_append, List.length_take, List.length_drop, List.length_nil] at this
          omega
      simp -implicitDefEqProofs [hL']
      exact ⟨⟨_, hput⟩, (KeepT.of0 hkw2).trans (hp2.keepT (hkW.trans hk5 (fun _ _ h => h) (fun j _ h => .inl h)))⟩
  · have hm2 : ¬ (s1, s2) ∈ spots L f := fun h => hm (spots_mem.1 h)
    simp -implicitDefEqProofs [hm2, delA, hm]
    exact ⟨⟨m, hp2⟩, KeepT.of0 hkw2⟩

theorem MpAt.moved {w w' : World} {b r : Nat} {m : MapL} {L : List On} (hp : MpAt w b r m L) (hL : Srt L) {x y : Int} (h1 : spots L x ≠ []) (h2 : spots L y = []) (hk : Keeps w w' (fun j => j = r)) (hm : MapAt w' r (delM (putM m y (rowOf m x)) x)) (hn : (keysM (putM m y (rowOf m x))).Nodup) :
    MpAt w' b r (delM (putM m y (rowOf m x)) x) (moveL x y L) := by
  obtain ⟨hxy, _, _, hs⟩ := move_spots hL h1 h2
  have hgx : ∃ v, getM m x = some v := by
    cases hg : getM m x with
    | none => exact absurd ((hp.no x).1 hg) h1
    | some v => exact ⟨v, rfl⟩
  obtain ⟨vx, hvx⟩ := hgx
  have hrx : rowOf m x = vx := by unfold rowOf; rw [hvx]; rfl
  have hg : ∀ g, getM (delM (putM m y (rowOf m x)) x) g = if g = x then none else if g = y then some vx else getM m g := fun g => by
    rw [getM_del hn, getM_put, hrx]
  have hrow : ∀ g v, getM m g = some v → RowE ESp w' v (spots L g) := fun g v hv => (hp.row g v hv).keep hk fun j hj e => by
    obtain ⟨c, hc⟩ := rowTag (hp.row g v hv) hj
    subst e
    rw [hp.map.nocells] at hc; cases hc
  refine ⟨hk.cells hp.cell (fun e => by subst e; have := hp.map.nocells; rw [hp.cell] at this; cases this), hm, fun g => ?_, fun g v hv => ?_, fun g g' v u j hv hu hgg hj hj' => ?_⟩
  · rw [hg, hs]
    by_cases e : g = x
    · subst e; rw [if_pos rfl, if_neg hxy, if_pos rfl]; exact ⟨fun _ => rfl, fun _ => rfl⟩
    · rw [if_neg e]
      by_cases e2 : g = y
      · subst e2; rw [if_pos rfl, if_pos rfl]; exact ⟨(fun h => by cases h), fun h => absurd h h1⟩
      · rw [if_neg e2, if_neg e2, if_neg e]; exact hp.no g
  · rw [hg] at hv
    rw [hs]
    by_cases e : g = x
    · rw [if_pos e] at hv; cases hv
    · rw [if_neg e] at hv
      by_cases e2 : g = y
      · rw [if_pos e2] at hv; simp only [Option.some.injEq] at hv; subst hv
        rw [if_pos e2]; exact hrow x _ hvx
      · rw [if_neg e2] at hv
        rw [if_neg e2, if_neg e]; exact hrow g v hv
  · rw [hg] at hv hu
    by_cases e : g = x
    · rw [if_pos e] at hv; cases hv
    · by_cases e' : g' = x
      · rw [if_pos e'] at hu; cases hu
      · rw [if_neg e] at hv; rw [if_neg e'] at hu
        by_cases e2 : g = y
        · rw [if_pos e2] at hv; simp only [Option.some.injEq] at hv; subst hv
          rw [if_neg (fun e3 => hgg (e2.trans e3.symm))] at hu
          exact hp.apart x g' _ u j hvx hu (fun e => e' e.symm) hj hj'
        · rw [if_neg e2] at hv
          by_cases e2' : g' = y
          · rw [if_pos e2'] at hu; simp only [Option.some.injEq] at hu; subst hu
            exact hp.apart g x v _ j hv hvx e hj hj'
          · rw [if_neg e2'] at hu
            exact hp.apart g g' v u j hv hu hgg hj hj'

theorem run11 {K : Kont} {fuel : Nat} {w : World} {b r : Nat} {m : MapL} {L : List On} (hp : MpAt w b r m L) (hL : Srt L) (x y : Int) :
    wpGFn Try.prog K fuel 11 g11 #[pt b, n64 x, n64 y] w fun v w' => v = n64 (moveA L x y).1 ∧ (∃ m', MpAt w' b r m' (moveA L x y).2) ∧ Keeps w w' (fun j => j = r) := by
  rw [gfn_start]
  have hlx := fun w' => (hp.rowAt x).lenS (w' := w')
  have hly := fun w' => (hp.rowAt y).lenS (w' := w')
  have kr : ∀ {w' : World}, w' = w → Keeps w w' (fun j => j = r) := fun e => by subst e; exact Keeps.refl _ _
  by_cases c1 : y < 0
  · simp -implicitDefEqProofs [g11, nil23, c1, moveA]
    exact ⟨⟨m, hp⟩, kr rfl⟩
  by_cases c2 : 1024 ≤ y
  · simp -implicitDefEqProofs [g11, nil23, c1, c2, moveA]
    exact ⟨⟨m, hp⟩, kr rfl⟩
  have c2' : y < 1024 := by omega
  by_cases c3 : spots L x = []
  · have c3' : (spots L x).length = 0 := by rw [c3]; rfl
    simp -implicitDefEqProofs [g11, nil23, c1, c2, c2', hp.cell, lookR hp.map, hlx, c3', moveA, c3]
    exact ⟨⟨m, hp⟩, kr rfl⟩
  have c3' : ¬ (spots L x).length = 0 := fun h => c3 (List.length_eq_zero_iff.1 h)
  by_cases c4 : spots L y = []
  · have c4' : ¬ 0 < (spots L y).length := by rw [c4]; simp
    have hc := hp.cell
    simp -implicitDefEqProofs [g11, nil23, c1, c2, c2', hp.cell, lookR hp.map, hlx, hly, c3', c3, c4', c4]
    refine updateA hp.map (fun es n hma => ?_)
    have hk5 : Keeps w (World.set w r (.map es n)) (fun j => j = r) := Keeps.set _ _ _ (fun _ => rfl)
    have hc5 := hk5.cells hp.cell (fun e => by subst e; have := hp.map.nocells; rw [hp.cell] at this; cases this)
    generalize World.set w r (.map es n) = w5 at *
    simp -implicitDefEqProofs [hc5]
    refine deleteA hma (fun es2 n2 hmb => ?_)
    have hk6 : Keeps w (World.set w5 r (.map es2 n2)) (fun j => j = r) := hk5.trans (Keeps.set _ _ _ (F := fun j => j = r) (fun _ => rfl)) (fun _ _ h => h) (fun _ _ h => h)
    have hmv := hp.moved hL c3 c4 hk6 hmb hma.nodup
    have hA : moveA L x y = (0, moveL x y L) := by unfold moveA; rw [if_neg (by omega), if_neg c3, if_neg (by simp [c4])]
    simp -implicitDefEqProofs [hA]
    exact ⟨⟨_, hmv⟩, hk6⟩
  · have c4' : 0 < (spots L y).length := List.length_pos_iff.2 c4
    simp -implicitDefEqProofs [g11, nil23, c1, c2, c2', hp.cell, lookR hp.map, hlx, hly, c3', c3, c4', c4, moveA]
    exact ⟨⟨m, hp⟩, kr rfl⟩
end Go.Proofs.Ytcfhhfdkecbphaa
