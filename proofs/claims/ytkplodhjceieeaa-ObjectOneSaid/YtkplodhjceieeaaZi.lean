/-
  ObjectMoves: the ideal walk.
-/
import Derived.Test.YtkplodhjceieeaaZh
namespace Go.Proofs.Ytkplodhjceieeaa
open Go Go.Ideal

theorem frames_own {s s' : OS} (h : ∀ g, ownA s' g = ownA s g) (id : Int) : framesA s' id = framesA s id := by
  have : fIs s' id = fIs s id := by
    unfold fIs
    apply List.map_congr_left
    intro f _
    unfold hasF
    rw [h]
  unfold framesA
  rw [this]

theorem chg_ok {s : OS} {B : Nat} (h : s.ok B) (a t : Int) : (chgO s a t).2.ok B := by
  unfold chgO
  split
  · exact h
  · rename_i o ho
    split
    · exact h
    · rename_i hr
      split
      · exact h
      · rename_i hb
        exact move_ok h ho hb (Classical.not_not.1 hr)

theorem run6 {K : Kont} {fuel : Nat} (hT : TopO K) (hf : 4000 ≤ fuel) {w : World} {v : Value} {xs : List ActO} (hv : ActsO w v xs) (hz : Froz w v) (a t : Int) : wpGFn Try.prog K fuel 6 g6 #[v, n64 a, n64 t] w fun u _ => u = .bool true := by
  rw [gfn_start]
  simp -implicitDefEqProofs [g6]
  refine valA_of (hT.made hv hz) (fun u w1 hq => ?_)
  obtain ⟨b, l, r, x, hu, hB1, _⟩ := hq
  simp only at hu hB1
  subst hu
  have hs := made_ok xs
  generalize madeO xs = s at *
  obtain ⟨pb, pf, vh, vl, hp, hq⟩ := hB1
  simp -implicitDefEqProofs
  refine valA_of (hT.o.awake _) (fun u w2 hq2 => ?_)
  obtain ⟨hu, hw⟩ := hq2
  simp only at hu hw
  subst hu hw
  have hlen := hs.len
  simp -implicitDefEqProofs
  refine valA_of (hT.r.own hq hs a) (fun u w3 hq3 => ?_)
  obtain ⟨hu, hw⟩ := hq3
  simp only at hu hw
  subst hu hw
  cases hoa : ownA s a with
  | none =>
    simp -implicitDefEqProofs [ownT]
    refine valA_of (hT.o.chg hp hs a t) (fun u w4 hq4 => ?_)
    obtain ⟨hu, _⟩ := hq4
    simp only at hu
    subst hu
    have hc : (chgO s a t).1 = 6 := by unfold chgO; rw [hoa]
    simp -implicitDefEqProofs [hc]
  | some o =>
    simp -implicitDefEqProofs [ownT]
    refine valA_of (hT.o.chg hp hs a t) (fun u w4 hq4 => ?_)
    obtain ⟨hu, hp4, hk4⟩ := hq4
    simp only at hu hp4 hk4
    subst hu
    by_cases hr : 0 ≤ t ∧ t < 1024
    · cases hot : ownA s t with
      | some o2 =>
        have hc : (chgO s a t).1 = 7 := by unfold chgO; simp only [hoa, hot]; rw [if_neg (fun e => e hr)]
        simp -implicitDefEqProofs [hc]
      | none =>
        have hc : chgO s a t = (0, moveL s a t) := by unfold chgO; simp only [hoa, hot]; rw [if_neg (fun e => e hr)]
        rw [hc] at hp4
        have hms := move_ok hs hoa hot hr
        obtain ⟨ho1, ho2⟩ := own_some hoa
        obtain ⟨hl1, _, hfr⟩ := hs.on o ho1
        simp -implicitDefEqProofs [hc]
        refine valA_of (hT.o.page hp4 o.id o.page) (fun u w5 hq5 => ?_)
        obtain ⟨hu, hw⟩ := hq5
        simp only at hu hw
        subst hu hw
        have hpg : pageT (moveL s a t) o.id o.page = .tuple #[n64 t, n64 0] := by
          unfold pageT
          have h1 : heldA (moveL s a t) o.id = heldA s o.id := rfl
          rw [h1, if_pos hl1, page_move, page_of hs ho1]
          simp [mv, ho2]
        have hat : a ≠ t := fun e => by rw [e, hot] at hoa; cases hoa
        have hmt : ownA (moveL s a t) t = some { o with frame := t } := by rw [own_move hs hoa hot, if_pos rfl]
        have hma : ownA (moveL s a t) a = none := by rw [own_move hs hoa hot, if_neg hat, if_pos rfl]
        have hra : 0 ≤ a ∧ a < 1024 := by rw [← ho2]; exact hfr
        have hc2 : chgO (moveL s a t) t a = (0, moveL (moveL s a t) t a) := by unfold chgO; simp only [hmt, hma]; rw [if_neg (fun e => e hra)]
        simp -implicitDefEqProofs [hpg]
        refine valA_of (hT.o.chg hp4 hms t a) (fun u w6 hq6 => ?_)
        obtain ⟨hu, hp6, hk6⟩ := hq6
        simp only at hu hp6 hk6
        subst hu
        rw [hc2] at hp6
        have hm2 := move_ok hms hmt hma hra
        have hown : ∀ g, ownA (moveL (moveL s a t) t a) g = ownA s g := fun g => by
          rw [own_move hms hmt hma]
          by_cases h1 : g = a
          · rw [if_pos h1, h1, hoa]; simp [← ho2]
          · rw [if_neg h1]
            by_cases h2 : g = t
            · rw [if_pos h2, h2, hot]
            · rw [if_neg h2, own_move hs hoa hot, if_neg h2, if_neg h1]
        have hq6 := (hq.keepT hk4).keepT hk6
        simp -implicitDefEqProofs [hc2]
        generalize hmm : moveL (moveL s a t) t a = sP at *
        refine loop_go (fun i ρ w' => ∃ (q : Nat), i = s.held.length - q ∧ q ≤ s.held.length ∧ ObjAt w' b l r pb pf sP ∧ RefO w' x vh vl s ∧ ρ 7 = pt b ∧ ρ 8 = pt x ∧ ρ 16 = n64 q) ?_ (i := s.held.length) ?_ (by show s.held.length < fuel; omega)
        · rintro i ρ w' ⟨q, rfl, hq3, hp', hr', e7, e8, e16⟩
          have w1 : IntKind.i64.wrap ((q : Int) + 1) = (q : Int) + 1 := by rw [IntKind.wrap_i64]; omega
          by_cases hlt : q < s.held.length
          · have hlt' : (q : Int) < s.held.length := by omega
            simp -implicitDefEqProofs [e7, e8, e16, hr'.cell, hr'.held.lenS, hlt', hlt]
            refine valA_of (hT.o.r.frames hp'.r hm2 q) (fun u w7 hq7 => ?_)
            obtain ⟨hrow, hk7, hb7⟩ := hq7
            simp only at hrow hk7 hb7
            simp -implicitDefEqProofs [e8, e16]
            refine valA_of (hT.r.r.frames (hr'.keep hk7 (fun _ _ h => h)) hs.lk q) (fun u2 w8 hq8 => ?_)
            obtain ⟨hrow2, hk8, _⟩ := hq8
            simp only at hrow2 hk8
            simp -implicitDefEqProofs
            refine valA_of (hT.r.num (hrow.keep hk8 (fun _ _ h => h)).src hrow2.src (by have := free_len (fIs sP q); unfold framesA; omega)) (fun u3 w9 hq9 => ?_)
            obtain ⟨hu, hw⟩ := hq9
            simp only at hu hw
            subst hu hw
            have hfe := frames_own hown q
            simp -implicitDefEqProofs [hfe, e16, w1]
            exact ⟨s.held.length - (q + 1), by omega, q + 1, rfl, by omega, (hp'.keep hk7).keep hk8, (hr'.keep hk7 (fun _ _ h => h)).keep hk8 (fun _ _ h => h), e7, e8, by omega⟩
          · have hqe : q = s.held.length := by omega
            subst hqe
            simp -implicitDefEqProofs [e8, e16, hr'.cell, hr'.held.lenS]
        · exact ⟨0, by omega, Nat.zero_le _, hp6, hq6, by simp, by simp, by simp⟩
    · have hc : (chgO s a t).1 = 3 := by unfold chgO; simp only [hoa]; rw [if_pos hr]
      simp -implicitDefEqProofs [hc]
end Go.Proofs.Ytkplodhjceieeaa
