/-
  Objects: the document's Drop.
-/
import Derived.Test.YtkplodhjceieeaaZc
namespace Go.Proofs.Ytkplodhjceieeaa
open Go Go.Ideal

theorem row_on' (c : Array Value) (i p f : Int) (h : c = #[n64 i, n64 p, n64 f]) (w : World) : rowS 96 3 1 #[.int .i64 0, .int .i64 0, .int .i64 0] [(0, .agg c)] w = .ret (.slice (some ⟨w.heap.size, 0, none⟩) 1 1, World.push w (.cells #[n64 i, n64 p, n64 f] 96)) := by
  subst h; exact row_on i p f w

def keepF (n : Int) (o : On) : Bool := decide (o.id ≠ n)

set_option maxRecDepth 20000 in
theorem run72 {K : Kont} {fuel : Nat} (hK : Ref3 K) (hf : 4000 ≤ fuel) {w : World} {x : Nat} {vh vl : Value} {s : OS} {B : Nat} (hp : RefO w x vh vl s) (hs : s.ok B) (hB : B ≤ 1000) (id : Int) :
    wpGFn Try.prog K fuel 72 g72 #[pt x, n64 id] w fun v w' => ∃ vr, v = .tuple #[vr, n64 (dropO s id).1.2] ∧ RowE (EInt 3) w' vr (dropO s id).1.1 ∧ RefTo2 w w' x vh vl (dropO s id).2 := by
  rw [gfn_start]
  simp -implicitDefEqProofs [g72]
  refine valA_of (hK.r.is hp id) (fun u w1 hq => ?_)
  obtain ⟨hu, hw⟩ := hq
  simp only at hu hw
  subst hu hw
  by_cases h : 0 < heldA s id
  · obtain ⟨h0, h1⟩ := held_lt h
    obtain ⟨n, rfl⟩ : ∃ n : Nat, id = n := ⟨id.toNat, by omega⟩
    rw [Int.toNat_natCast] at h1
    obtain ⟨bb, oo, cap, c, hv, hc, hsz, ha⟩ := rowAt hp.held h1
    have a0 := ha 0 Nat.one_pos
    simp only [EInt, Nat.mul_one, Nat.add_zero, List.getElem?_cons_zero] at a0 hc hsz
    have hh : heldA s n = s.held[n] := by simp [heldA, h1]
    have hbd := held_bd hs n
    have hw : IntKind.i64.wrap (s.held[n] - 1) = s.held[n] - 1 := by rw [IntKind.wrap_i64]; omega
    have hput := hp.put h1 hv hc (s.held[n] - 1)
    have hon : oo + n < c.size := by omega
    have hget : ∀ h, c[oo + n]'h = n64 (s.held[n]'h1) := fun h => by
      rw [Array.getElem?_eq_getElem h] at a0
      exact Option.some.inj a0
    have hbl := cells_lt hc
    have hxb : ¬ x = bb := fun e => by have := hp.cell; rw [e, hc] at this; simp at this
    rw [hh] at h
    by_cases h2 : 0 < s.held[n] - 1
    · have h3 : 1 < s.held[n] := by omega
      have hd : dropO s n = (([], 0), putH s n (s.held[n] - 1)) := by unfold dropO; rw [hh, if_neg (by omega), if_pos h2]
      simp -implicitDefEqProofs [h, hh, hp.cell, hv, hc, hget, h1, hw, hsz, hon, hbl, hxb, h2, h3, hd]
      rw [hv] at hput
      exact ⟨RowE.nil _, ⟨_, _, hput.1⟩, hput.2⟩
    · have h3 : s.held[n] = 1 := by omega
      have hd : dropO s n = ((framesA s n, 0), goneL s n) := by unfold dropO; rw [hh, if_neg (by omega), if_neg h2]
      have hw0 : IntKind.i64.wrap 0 = 0 := rfl
      rw [h3] at hput hget
      simp -implicitDefEqProofs [hh, hp.cell, hv, hc, hget, h1, hw0, h3, hsz, hon, hbl, hxb, hd]
      rw [show (1 : Int) - 1 = 0 from rfl] at hput
      generalize World.set w1 bb (.cells (c.setIfInBounds (oo + n) (n64 0)) 3) = w2 at *
      obtain ⟨hp2, k2⟩ := hput
      have hlk : (putH s n 0).lok := ⟨hs.fr, hs.lk.rg⟩
      refine valA_of (hK.frames hp2 hlk n) (fun vr w3 hq => ?_)
      obtain ⟨hrow, hk3, hvb⟩ := hq
      simp only at hrow hk3 hvb
      have hfe : framesA (putH s n 0) n = framesA s n := rfl
      rw [hfe] at hrow
      have hp3 := hp2.keep hk3 (fun _ _ h => h)
      have hll : s.l.length ≤ 1024 := l_len hs
      have hlen3 : (putH s n 0).l = s.l := rfl
      have hl3 : RowE EOn w3 vl s.l := hp3.l
      obtain ⟨n1, n2, n3⟩ := hp3.ne
      simp -implicitDefEqProofs
      refine loop_go (fun i ρ w' => ∃ (q : Nat) (v : Value), i = s.l.length - q ∧ q ≤ s.l.length ∧ RowE EOn w' v ((s.l.take q).filter (keepF n)) ∧ Keeps w3 w' (fun _ => False) ∧ (∀ j, blkOf v = some j → w3.heap.size ≤ j) ∧ ρ 0 = pt x ∧ ρ 1 = n64 n ∧ ρ 6 = vr ∧ ρ 7 = v ∧ ρ 8 = n64 q) ?_ (i := s.l.length) ?_ (by show s.l.length < fuel; omega)
      · rintro i ρ w' ⟨q, v, rfl, hq, hvr, hk', hvb', e0, e1, e6, e7, e8⟩
        subst e7
        have w1' : IntKind.i64.wrap ((q : Int) + 1) = (q : Int) + 1 := by rw [IntKind.wrap_i64]; omega
        have hp' := hp3.keep hk' (fun _ _ h => h)
        have hl' : RowE EOn w' vl s.l := hp'.l
        by_cases hql : q < s.l.length
        · have hql' : (q : Int) < s.l.length := by omega
          obtain ⟨bb2, oo2, cap2, c2, t2, z2, hv2, hc2, hsz2, hext, ha2⟩ := hl'.src.at hql
          have a0 := ha2 0 (by decide)
          simp [EOn] at a0 hsz2 hext
          have htk : (s.l.take (q + 1)).filter (keepF n) = (s.l.take q).filter (keepF n) ++ (if s.l[q].id ≠ (n : Int) then [s.l[q]] else []) := by
            rw [List.take_succ_eq_append_getElem hql, List.filter_append]
            by_cases hc : s.l[q].id = (n : Int) <;> simp [hc, keepF]
          by_cases he : s.l[q].id = (n : Int)
          · rw [if_neg (by simpa using he)] at htk
            simp -implicitDefEqProofs [e0, e1, e8, hp'.cell, hl'.lenS, hql', hv2, hc2, a0, hql, he, w1']
            exact ⟨s.l.length - (q + 1), by omega, q + 1, rfl, hql, ρ 7, by rw [htk, List.append_nil]; exact hvr, hk', hvb', e6, rfl, by omega⟩
          · rw [if_pos he] at htk
            have hg0 : ∀ h, c2[oo2 + q * 3]'h = n64 (s.l[q]'hql).id := fun h => by
              rw [Array.getElem?_eq_getElem h] at a0
              exact Option.some.inj a0
            have hsz3 : oo2 + q * 3 < c2.size := by omega
            simp -implicitDefEqProofs [e0, e1, e8, hp'.cell, hl'.lenS, hql', hv2, hc2, hg0, hsz2, hsz3, hext, hql, he, row_on]
            have hkp : Keeps w' (World.push w' (.cells #[n64 s.l[q].id, n64 s.l[q].page, n64 s.l[q].frame] 96)) (fun _ => False) := Keeps.push _ _ _
            have hfl : ((s.l.take q).filter (keepF n)).length ≤ 1024 := Nat.le_trans (List.length_filter_le _ _) (by simp; omega)
            refine appE (E := EOn) (by_ := 24) (hvr.keep hkp (fun _ _ h => h)) (src_on (o := s.l[q]) (by simp)) (by simp; omega) (by decide) (fun v4 w4 hr4 hk4 _ hb4 => ?_)
            have hb4 := hb4 (by simp)
            have hk24 : Keeps w' w4 (fun j => blkOf (ρ 7) = some j) := hkp.trans hk4 (fun _ _ h => h.elim) (fun _ _ h => h)
            simp -implicitDefEqProofs [e8, w1']
            refine ⟨s.l.length - (q + 1), by omega, q + 1, rfl, hql, v4, by rw [htk]; exact hr4, hk'.trans hk24 (fun _ _ h => h) (fun j hj h => by have := hvb' j h; omega), fun j hj => ?_, e0, e1, e6, rfl, by omega⟩
            rw [hb4] at hj
            simp at hj
            have := hk'.1
            omega
        · have hqe : q = s.l.length := by omega
          subst hqe
          rw [List.take_length] at hvr
          have hx4 := hp'.cell
          have hlt4 := cells_lt hx4
          have kx : Keeps w' (World.set w' x (.cells #[vh, ρ 7] 40)) (fun j => j = x) := Keeps.set _ _ _ (fun _ => rfl)
          have hone := hvr.one
          have hcl := hvr.cells1
          have hx3 := cells_lt hp3.cell
          have hbx : ¬ blkOf (ρ 7) = some x := fun e => by have := hvb' x e; omega
          have hx2 := cells_lt hp2.cell
          simp -implicitDefEqProofs [e0, e6, e8, hx4, hl'.lenS, hlt4, hone, hcl]
          refine ⟨(hrow.keep hk' (fun _ _ h => h)).keep kx (fun b hb e => by have := hvb b hb; omega), ⟨vh, ρ 7, ⟨by simp [hlt4], ?_, hvr.keep kx (fun b hb e => hbx (by rw [hb, e]))⟩⟩, ?_⟩
          · exact hp'.held.keep kx (fun b hb e => n1 (by rw [hb, e]))
          · rw [← hv]
            exact k2.trans (hk3.trans (hk'.trans kx (H := fun j => j = x) (fun _ _ h => h.elim) (fun _ _ h => h)) (H := fun j => j = x) (fun _ _ h => h.elim) (fun _ _ h => h)) (fun _ _ h => h) (fun _ _ h => .inl h)
      · exact ⟨0, .slice none 0 0, rfl, Nat.zero_le _, RowE.nil _, Keeps.refl _ _, (fun j hj => by cases hj), by simp, by simp, by simp, by simp, by simp⟩
  · have hd : dropO s id = (([], 6), s) := by unfold dropO; rw [if_pos h]
    simp -implicitDefEqProofs [h, hd]
    exact ⟨RowE.nil _, ⟨vh, vl, hp⟩, Keeps.refl _ _⟩
end Go.Proofs.Ytkplodhjceieeaa
