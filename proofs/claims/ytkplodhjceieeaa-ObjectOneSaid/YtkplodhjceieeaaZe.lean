/-
  Objects: the document's Change.
-/
import Derived.Test.YtkplodhjceieeaaZd
namespace Go.Proofs.Ytkplodhjceieeaa
open Go Go.Ideal

theorem set_same (c : Array Value) (k : Nat) (v : Value) (h : c[k]? = some v) : c.setIfInBounds k v = c := by
  apply Array.ext_getElem?
  intro j
  rw [Array.getElem?_setIfInBounds]
  by_cases hj : k = j
  · subst hj
    have := (Array.getElem?_eq_some_iff.1 h).1
    rw [if_pos rfl, if_pos this, h]
  · rw [if_neg hj]

theorem move_set {s : OS} {B : Nat} (hs : s.ok B) {a t : Int} {i : Nat} (hi : i < s.l.length) (ha : s.l[i].frame = a) : (moveL s a t).l = s.l.set i { s.l[i] with frame := t } := by
  apply List.ext_getElem?
  intro j
  simp only [moveL, List.getElem?_map, List.getElem?_set]
  by_cases hj : i = j
  · subst hj
    rw [if_pos rfl, if_pos hi, List.getElem?_eq_getElem hi]
    simp [mv, ha]
  · rw [if_neg hj]
    by_cases hl : j < s.l.length
    · rw [List.getElem?_eq_getElem hl]
      have hne : s.l[j].frame ≠ a := fun e => by
        have : j = i := (List.getElem_inj (h₀ := by rw [List.length_map]; exact hl) (h₁ := by rw [List.length_map]; exact hi) hs.fr).1 (by simp [e, ha])
        exact hj this.symm
      simp [mv, hne]
    · rw [List.getElem?_eq_none (by omega)]; rfl

theorem row_no (w : World) : rowS 96 3 0 #[] [] w = .ret (.slice (some ⟨w.heap.size, 0, none⟩) 0 0, World.push w (.cells #[] 96)) := by
  simp [rowS, Instr.fill]

set_option maxRecDepth 20000 in
theorem run74 {K : Kont} {fuel : Nat} (hK : Ref3 K) {w : World} {x : Nat} {vh vl : Value} {s : OS} {B : Nat} (hp : RefO w x vh vl s) (hs : s.ok B) (a t : Int) :
    wpGFn Try.prog K fuel 74 g74 #[pt x, n64 a, n64 t] w fun v w' => v = n64 (chgO s a t).1 ∧ RefTo2 w w' x vh vl (chgO s a t).2 := by
  rw [gfn_start]
  simp -implicitDefEqProofs [g74]
  refine valA_of (hK.r.of hp hs.lk a) (fun u w1 hq => ?_)
  obtain ⟨hq, hw⟩ := hq
  simp only at hq hw
  subst hw
  have same : RefTo2 w1 w1 x vh vl s := ⟨⟨vh, vl, hp⟩, Keeps.refl _ _⟩
  rcases hq with ⟨g1, hu⟩ | ⟨i, hi, g1, hu⟩
  · subst hu
    simp -implicitDefEqProofs [chgO, g1]
    exact same
  · subst hu
    obtain ⟨_, gf⟩ := own_some g1
    have hi0 : ¬ ((i : Int) < 0) := by omega
    by_cases c1 : 0 ≤ t ∧ t < 1024
    · have b3 : ¬ t < 0 := by omega
      have b4 : ¬ 1023 < t := by omega
      simp -implicitDefEqProofs [hi0, b3, b4]
      refine valA_of (hK.r.of hp hs.lk t) (fun u w2 hq => ?_)
      obtain ⟨hq, hw⟩ := hq
      simp only at hq hw
      subst hw
      rcases hq with ⟨h1, hu⟩ | ⟨k, hk, h1, hu⟩
      · subst hu
        have hco : chgO s a t = (0, moveL s a t) := by unfold chgO; simp only [g1, h1]; rw [if_neg (fun e => e c1)]
        have hll := l_len hs
        obtain ⟨n1, n2, n3⟩ := hp.ne
        have hxl := cells_lt hp.cell
        have hxn : ¬ x = w2.heap.size := by omega
        simp -implicitDefEqProofs [row_no, hp.cell, hxn]
        have hkp : Keeps w2 (World.push w2 (.cells #[] 96)) (fun _ => False) := Keeps.push _ _ _
        refine appE (E := EOn) (by_ := 24) (ls := []) (RowE.empty (E := EOn) (b := w2.heap.size) (c := #[]) (by simp [EOn])) (hp.l.keep hkp (fun _ _ h => h)).src (by simp; omega) (by decide) (fun v4 w4 hr4 hk4 _ hb4 => ?_)
        have hne : s.l ≠ [] := fun e => by rw [e] at hi; simp at hi
        have hb4 := hb4 hne
        rw [List.nil_append] at hr4
        have hk24 : Keeps w2 w4 (fun _ => False) := hkp.trans hk4 (fun _ _ h => h) (fun j hj h => by simp at h; omega)
        have hx4 : cellsOf? w4 x = some (#[vh, vl], 40, (0, 0)) := hk24.cells hp.cell (fun h => h)
        have hlt4 := cells_lt hx4
        have kx : Keeps w4 (World.set w4 x (.cells #[vh, v4] 40)) (fun j => j = x) := Keeps.set _ _ _ (fun _ => rfl)
        have hone := hr4.one
        have hcl := hr4.cells1
        have hbx : ¬ blkOf v4 = some x := fun e => by rw [hb4] at e; simp at e; omega
        have hr5 := hr4.keep kx (fun b hb e => hbx (by rw [hb, e]))
        have hx5 : cellsOf? (World.set w4 x (.cells #[vh, v4] 40)) x = some (#[vh, v4], 40, (0, 0)) := by simp [hlt4]
        have hh5 : RowE (EInt 3) (World.set w4 x (.cells #[vh, v4] 40)) vh s.held := (hp.held.keep hk24 (fun _ _ h => h)).keep kx (fun b hb e => n1 (by rw [hb, e]))
        simp -implicitDefEqProofs [hx4, hlt4, hone, hcl]
        generalize World.set w4 x (.cells #[vh, v4] 40) = w5 at *
        obtain ⟨bb, oo, cap, c, hv, hc, hsz, ha⟩ := rowAt hr5 hi
        have a0 := ha 0 (by decide)
        have a1 := ha 1 (by decide)
        have hset := hr5.set hi { s.l[i] with frame := t } hv hc
        rw [← move_set hs hi gf] at hset
        simp [EOn] at a0 a1 hc hsz hset
        rw [set_same c _ _ a0, set_same c _ _ a1] at hset
        have hbb : bb = w2.heap.size + 1 := by rw [hv] at hb4; simp at hb4; exact hb4
        have hnx : ¬ x = bb := by omega
        have k25 : Keeps w2 w5 (fun j => j = x) := hk24.trans kx (fun _ _ h => h.elim) (fun _ _ h => h)
        have hs3 : oo + i * 3 + 2 + 1 ≤ c.size := by omega
        have kz : Keeps w5 (World.set w5 bb (.cells (c.setIfInBounds (oo + i * 3 + 2) (n64 t)) 96)) (fun j => j = bb) := Keeps.set _ _ _ (fun _ => rfl)
        have fin : RefTo2 w2 (World.set w5 bb (.cells (c.setIfInBounds (oo + i * 3 + 2) (n64 t)) 96)) x vh vl (moveL s a t) := by
          refine ⟨⟨vh, v4, ⟨kz.cells hx5 hnx, hh5.keep kz (fun b hb e => ?_), hset⟩⟩, k25.trans kz (fun _ _ h => .inl h) (fun j hj h => by omega)⟩
          have := hp.held.block_lt hb
          omega
        simp -implicitDefEqProofs [hx5, hv, hc, hi, hs3, hco]
        exact fin
      · subst hu
        simp -implicitDefEqProofs [chgO, g1, h1, c1]
        exact same
    · by_cases b3 : t < 0
      · simp -implicitDefEqProofs [hi0, b3, chgO, g1, c1]
        exact same
      · have b4 : 1023 < t := by omega
        simp -implicitDefEqProofs [hi0, b3, b4, chgO, g1, c1]
        exact same
end Go.Proofs.Ytkplodhjceieeaa
