/-
  Rmap: the document's calls.
-/
import Derived.Test.YtcfhhfdkecbphaaRl
namespace Go.Proofs.Ytcfhhfdkecbphaa
open Go Go.Ideal

/-! ### Spots -/
theorem run16 {K : Kont} {fuel : Nat} {w : World} {x : Nat} {L : List On} (hp : DocAt w x L) (hn : L.length ≤ 800000) (hf : 2000000 ≤ fuel) (f : Int) : wpGFn Try.prog K fuel 16 g16 #[pt x, n64 f] w fun z w' => Out ESp w w' z (spots L f) := by
  rw [gfn_start]
  obtain ⟨v, hc, hv⟩ := hp
  have hl := fun w' => hv.lenS (w' := w')
  simp -implicitDefEqProofs [g16]
  refine loop_go (fun i ρ w' => ∃ q : Nat, i = L.length - q ∧ q ≤ L.length ∧ ρ 0 = pt x ∧ ρ 1 = n64 f ∧ ρ 6 = n64 q ∧ Out ESp w w' (ρ 5) (spots (L.take q) f)) ?_ (i := L.length) ?_ (by show L.length < fuel; omega)
  · rintro i ρ w' ⟨q, rfl, hq, e0, e1, e6, ho⟩
    have x1 : IntKind.i64.wrap ((q : Int) + 1) = (q : Int) + 1 := by rw [IntKind.wrap_i64]; omega
    have hc' := ho.k.cells hc (fun h => h)
    have hv' := hv.keep ho.k (fun _ _ h => h)
    by_cases h : q < L.length
    · have h' : (q : Int) < L.length := by omega
      obtain ⟨b1, o1, p1, c1, hve, hc1, hs1, hx1, ha1, hy1⟩ := rowOn hv' h
      rw [hve] at hl
      rw [hve] at hc'
      have htk : spots (L.take (q + 1)) f = spots (L.take q) f ++ if L[q].1 = f then [L[q].2] else [] := by
        rw [List.take_succ_eq_append_getElem h]
        unfold spots
        rw [List.filter_append, List.map_append]
        congr 1
        by_cases he : L[q].1 = f <;> simp [he]
      by_cases he : L[q].1 = f
      · rw [if_pos he] at htk
        have h27 := row27 L[q].2 w'
        have hkp : Keeps w' (World.push w' (.cells #[.int .i64 L[q].2.1, .int .i64 L[q].2.2] 27)) (fun _ => False) := Keeps.push _ _ _
        have hsl := spots_len (L.take q) f
        rw [List.length_take] at hsl
        simp -implicitDefEqProofs [e0, e1, e6, h, h', hc', hl, hc1, hs1, hx1, ha1, hy1, he, h27]
        refine (ho.keep hkp).app (by_ := 16) (srcSp (s := L[q].2) (by simp)) (by simp; omega) (by decide) (fun v4 w4 ho4 => ?_)
        simp -implicitDefEqProofs [e0, e1, e6, x1]
        refine ⟨L.length - (q + 1), by omega, q + 1, rfl, by omega, by omega, ?_⟩
        rw [htk]; exact ho4
      · rw [if_neg he, List.append_nil] at htk
        simp -implicitDefEqProofs [e0, e1, e6, h, h', hc', hl, hc1, hs1, hx1, ha1, hy1, he, x1]
        refine ⟨L.length - (q + 1), by omega, q + 1, rfl, by omega, by omega, ?_⟩
        rw [htk]; exact ho
    · have hq2 : q = L.length := by omega
      subst hq2
      rw [List.take_length] at ho
      simp -implicitDefEqProofs [e0, e6, hc', hl]
      exact ho
  · exact ⟨0, by simp, Nat.zero_le _, by simp, by simp, by simp, by simp [spots_nil]; exact Out.nil ESp w⟩

/-! ### Frames -/
theorem framesG_app : ∀ (L M : List On) (p : Option Int), framesG p (L ++ M) = framesG p L ++ framesG ((L.getLast?.map (·.1)).orElse fun _ => p) M
  | [], M, p => by simp [framesG]
  | x :: L, M, p => by
    simp only [List.cons_append, framesG]
    have hx : (((x :: L).getLast?.map (·.1)).orElse fun _ => p) = ((L.getLast?.map (·.1)).orElse fun _ => some x.1) := by
      cases L with
      | nil => simp
      | cons y L =>
        rw [List.getLast?_cons_cons]
        cases hz : (y :: L).getLast? with
        | none => simp at hz
        | some z => rfl
    rw [hx]
    split
    · rename_i h; rw [framesG_app L M p, h]
    · rw [framesG_app L M (some x.1)]; rfl
theorem frames_take {L : List On} {q : Nat} (h : q < L.length) : frames (L.take (q + 1)) = frames (L.take q) ++ if q = 0 ∨ L[q].1 ≠ (L[q - 1]'(by omega)).1 then [L[q].1] else [] := by
  rw [List.take_succ_eq_append_getElem h]
  unfold frames
  rw [framesG_app]
  congr 1
  cases q with
  | zero => simp [framesG]
  | succ q =>
    have hlast : (L.take (q + 1)).getLast? = some L[q] := by
      rw [List.take_succ_eq_append_getElem (by omega)]
      first | exact List.getLast?_concat | exact List.getLast?_concat _ | exact List.getLast?_append_singleton | (rw [List.getLast?_append]; rfl)
    rw [hlast]
    simp only [framesG, Option.map_some, Option.orElse_some, Option.some.injEq, Nat.add_sub_cancel, Nat.add_eq_zero_iff, Nat.succ_ne_self, and_false, false_or, ne_eq]
    by_cases he : L[q].1 = L[q + 1].1
    · simp [he]
    · rw [if_neg he, if_pos (fun e => he e.symm)]

theorem run19 {K : Kont} {fuel : Nat} {w : World} {x : Nat} {L : List On} (hp : DocAt w x L) (hn : L.length ≤ 800000) (hf : 2000000 ≤ fuel) : wpGFn Try.prog K fuel 19 g19 #[pt x] w fun z w' => Out (EInt 3) w w' z (frames L) := by
  rw [gfn_start]
  obtain ⟨v, hc, hv⟩ := hp
  have hl := fun w' => hv.lenS (w' := w')
  simp -implicitDefEqProofs [g19]
  refine loop_go (fun i ρ w' => ∃ q : Nat, i = L.length - q ∧ q ≤ L.length ∧ ρ 0 = pt x ∧ ρ 4 = n64 q ∧ Out (EInt 3) w w' (ρ 3) (frames (L.take q))) ?_ (i := L.length) ?_ (by show L.length < fuel; omega)
  · rintro i ρ w' ⟨q, rfl, hq, e0, e4, ho⟩
    have x1 : IntKind.i64.wrap ((q : Int) + 1) = (q : Int) + 1 := by rw [IntKind.wrap_i64]; omega
    have hc' := ho.k.cells hc (fun h => h)
    have hv' := hv.keep ho.k (fun _ _ h => h)
    by_cases h : q < L.length
    · have h' : (q : Int) < L.length := by omega
      obtain ⟨b1, o1, p1, c1, hve, hc1, hs1, hx1, ha1, hy1⟩ := rowOn hv' h
      rw [hve] at hl
      rw [hve] at hc'
      have htk := frames_take h
      have hkp : Keeps w' (World.push w' (.cells #[.int .i64 L[q].1] 3)) (fun _ => False) := Keeps.push _ _ _
      have hfl := frames_len (L.take q)
      rw [List.length_take] at hfl
      by_cases hq0 : q = 0
      · rw [if_pos (.inl hq0)] at htk
        subst hq0
        have ha0 : c1[o1]? = some (.int .i64 L[0].1) := by simpa using ha1
        simp -implicitDefEqProofs [e0, e4, h, h', hc', hl, hc1, hs1, hx1, ha0, hy1, row1]
        refine (ho.keep hkp).app (by_ := 8) (src_int (c := 3) (r := w'.heap.size) (n := L[0].1) (by simp)) (by simp [frames, framesG]) (by decide) (fun v4 w4 ho4 => ?_)
        simp -implicitDefEqProofs [e0, e4]
        refine ⟨L.length - 1, by omega, 1, rfl, by omega, by first | decide | omega, ?_⟩
        rw [htk]; exact ho4
      · have hq0' : ¬ (q : Int) = 0 := by omega
        have hq1 : q - 1 < L.length := by omega
        have x3 : IntKind.i64.wrap ((q : Int) - 1) = ((q - 1 : Nat) : Int) := by rw [IntKind.wrap_i64]; omega
        obtain ⟨b2, o2, p2, c2, hve2, hc2, hs2, hx2, ha2, hy2⟩ := rowOn hv' hq1
        rw [hve] at hve2
        simp only [Value.slice.injEq, Option.some.injEq, Addr.mk.injEq, and_true, true_and] at hve2
        obtain ⟨⟨rfl, rfl⟩, rfl⟩ := hve2
        rw [hc1] at hc2
        simp only [Option.some.injEq, Prod.mk.injEq, and_true] at hc2
        subst hc2
        by_cases he : L[q].1 = (L[q - 1]'(by omega)).1
        · rw [if_neg (by simp [hq0, he]), List.append_nil] at htk
          simp -implicitDefEqProofs [e0, e4, h, h', hc', hl, hc1, hs1, hs2, ha1, ha2, hq0, hq0', x1, x3, hq1, he]
          refine ⟨L.length - (q + 1), by omega, q + 1, rfl, by omega, by omega, ?_⟩
          rw [htk]; exact ho
        · rw [if_pos (.inr he)] at htk
          simp -implicitDefEqProofs [e0, e4, h, h', hc', hl, hc1, hs1, hs2, ha1, ha2, hq0, hq0', x3, hq1, he, row1]
          refine (ho.keep hkp).app (by_ := 8) (src_int (c := 3) (r := w'.heap.size) (n := L[q].1) (by simp)) (by simp; omega) (by decide) (fun v4 w4 ho4 => ?_)
          simp -implicitDefEqProofs [e0, e4, x1]
          refine ⟨L.length - (q + 1), by omega, q + 1, rfl, by omega, by omega, ?_⟩
          rw [htk]; exact ho4
    · have hq2 : q = L.length := by omega
      subst hq2
      rw [List.take_length] at ho
      simp -implicitDefEqProofs [e0, e4, hc', hl]
      exact ho
  · exact ⟨0, by simp, Nat.zero_le _, by simp, by simp, by simp [frames, framesG]; exact Out.nil _ w⟩

/-! ### Del -/
/-- What a call of the document leaves. -/
def DTo (w w' : World) (x : Nat) (L : List On) : Prop := DocAt w' x L ∧ Keeps w w' (fun j => j = x)
theorem DTo.set {w w' : World} {x : Nat} {L L' : List On} {u : Value} (hp : DocAt w x L) (ho : Out EOn w w' u L') : DTo w (World.set w' x (.cells #[u] 60)) x L' := by
  obtain ⟨v, hc, hv⟩ := hp
  have hlt : x < w'.heap.size := Nat.lt_of_lt_of_le (cells_lt hc) ho.k.1
  have hk : Keeps w' (World.set w' x (.cells #[u] 60)) (fun j => j = x) := Keeps.set _ _ _ (fun _ => rfl)
  refine ⟨⟨u, by simp [hlt], ho.row.keep hk fun j hj e => ?_⟩, ho.k.trans hk (fun _ _ h => h.elim) (fun _ _ h => h)⟩
  subst e
  have := ho.new j hj
  have := cells_lt hc
  omega

theorem delA_snd {L : List On} (f : Int) (s : Sp) : (delA L f s).2 = delO (f, s) L := by
  unfold delA
  split
  · rfl
  · rename_i h
    symm
    exact List.filter_eq_self.2 fun a ha => by simp only [decide_eq_true_eq]; intro e; subst e; exact h ha
theorem delO_all {L : List On} {x : On} : (delO x L).length = L.length ↔ x ∉ L := by
  unfold delO
  rw [List.length_filter_eq_length_iff]
  constructor
  · intro h hx
    have := h x hx
    simp at this
  · intro h a ha
    simp only [decide_eq_true_eq]; intro e; subst e; exact h ha

theorem DTo.back {w w1 w' : World} {x : Nat} {L : List On} (hk : Keeps w w1 (fun _ => False)) (h : DTo w1 w' x L) : DTo w w' x L := ⟨h.1, hk.trans h.2 (fun _ _ h => h.elim) (fun _ _ h => h)⟩

theorem run28 {K : Kont} {fuel : Nat} {w : World} {x : Nat} {L : List On} (hp : DocAt w x L) (hn : L.length ≤ 800000) (hf : 2000000 ≤ fuel) (f : Int) (s : Sp) : wpGFn Try.prog K fuel 28 g28 #[pt x, n64 f, spV s] w fun z w' => z = n64 (delA L f s).1 ∧ DTo w w' x (delA L f s).2 := by
  rw [gfn_start]
  obtain ⟨s1, s2⟩ := s
  have hkb : Keeps w (World.push w (.cells #[.int .i64 s1, .int .i64 s2] 27)) (fun _ => False) := Keeps.push _ _ _
  have hb : cellsOf? (World.push w (.cells #[.int .i64 s1, .int .i64 s2] 27)) w.heap.size = some (#[.int .i64 s1, .int .i64 s2], 27, (0, 0)) := by simp
  simp -implicitDefEqProofs [g28]
  generalize World.push w (.cells #[.int .i64 s1, .int .i64 s2] 27) = w1 at *
  have hp1 := hp.keep hkb
  clear hp
  have hp0 := hp1
  obtain ⟨v, hc, hv⟩ := hp1
  have hl := fun w' => hv.lenS (w' := w')
  refine loop_go (fun i ρ w' => ∃ q : Nat, i = L.length - q ∧ q ≤ L.length ∧ ρ 0 = pt x ∧ ρ 1 = n64 f ∧ ρ 5 = pt w.heap.size ∧ ρ 8 = n64 q ∧ Out EOn w1 w' (ρ 7) (delO (f, s1, s2) (L.take q))) ?_ (i := L.length) ?_ (by show L.length < fuel; omega)
  · rintro i ρ w' ⟨q, rfl, hq, e0, e1, e5, e8, ho⟩
    have x1 : IntKind.i64.wrap ((q : Int) + 1) = (q : Int) + 1 := by rw [IntKind.wrap_i64]; omega
    have hc' := ho.k.cells hc (fun h => h)
    have hv' := hv.keep ho.k (fun _ _ h => h)
    have hb' := ho.k.cells hb (fun h => h)
    by_cases h : q < L.length
    · have h' : (q : Int) < L.length := by omega
      obtain ⟨b1, o1, p1, c1, hve, hc1, hs1, hx1, ha1, hy1⟩ := rowOn hv' h
      rw [hve] at hl
      rw [hve] at hc'
      have htk : delO (f, s1, s2) (L.take (q + 1)) = delO (f, s1, s2) (L.take q) ++ if L[q] = (f, s1, s2) then [] else [L[q]] := by
        rw [List.take_succ_eq_append_getElem h]
        unfold delO
        rw [List.filter_append]
        congr 1
        by_cases he : L[q] = (f, s1, s2) <;> simp [he]
      have hdl : (delO (f, s1, s2) (L.take q)).length ≤ L.length := Nat.le_trans (List.length_filter_le _ _) (by rw [List.length_take]; omega)
      generalize L[q] = lq at *
      have h62 := row62 lq w'
      have hkp : Keeps w' (World.push w' (.cells #[.int .i64 lq.1, .int .i64 lq.2.1, .int .i64 lq.2.2] 62)) (fun _ => False) := Keeps.push _ _ _
      by_cases he1 : lq.1 = f
      · subst he1
        by_cases he2 : lq.2 = (s1, s2)
        · have he : lq = (lq.1, s1, s2) := Prod.ext rfl he2
          have g1 : lq.2.1 = s1 := by rw [he2]
          have g2 : lq.2.2 = s2 := by rw [he2]
          rw [if_pos he, List.append_nil] at htk
          simp -implicitDefEqProofs [e0, e1, e5, e8, h, h', hc', hl, hc1, hs1, hx1, ha1, hy1, hb', sp_ne, g1, g2, x1]
          refine ⟨L.length - (q + 1), by omega, q + 1, rfl, by omega, by omega, ?_⟩
          rw [htk]; exact ho
        · have he : ¬ lq = (lq.1, s1, s2) := fun e => he2 (congrArg (·.2) e)
          have g1 : ¬ (lq.2.1 = s1 ∧ lq.2.2 = s2) := fun h => he2 (Prod.ext h.1 h.2)
          rw [if_neg he] at htk
          simp -implicitDefEqProofs [e0, e1, e5, e8, h, h', hc', hl, hc1, hs1, hx1, ha1, hy1, hb', sp_ne, g1, h62]
          refine (ho.keep hkp).app (by_ := 24) (srcOn (r := w'.heap.size) (o := lq) (by simp)) (by simp only [List.length_cons, List.length_nil]; omega) (by decide) (fun v4 w4 ho4 => ?_)
          simp -implicitDefEqProofs [e0, e1, e5, e8, x1]
          refine ⟨L.length - (q + 1), by omega, q + 1, rfl, by omega, by omega, ?_⟩
          rw [htk]; exact ho4
      · have he : ¬ lq = (f, s1, s2) := fun e => he1 (congrArg (·.1) e)
        rw [if_neg he] at htk
        simp -implicitDefEqProofs [e0, e1, e5, e8, h, h', hc', hl, hc1, hs1, hx1, ha1, hy1, hb', he1, h62]
        refine (ho.keep hkp).app (by_ := 24) (srcOn (r := w'.heap.size) (o := lq) (by simp)) (by simp only [List.length_cons, List.length_nil]; omega) (by decide) (fun v4 w4 ho4 => ?_)
        simp -implicitDefEqProofs [e0, e1, e5, e8, x1]
        refine ⟨L.length - (q + 1), by omega, q + 1, rfl, by omega, by omega, ?_⟩
        rw [htk]; exact ho4
    · have hq2 : q = L.length := by omega
      subst hq2
      rw [List.take_length] at ho
      have hlo := fun w' => ho.row.lenS (w' := w')
      by_cases hm : (f, s1, s2) ∈ L
      · have hne : ¬ (delO (f, s1, s2) L).length = L.length := fun h => delO_all.1 h hm
        have hne' : ¬ ((delO (f, s1, s2) L).length : Int) = L.length := by omega
        have hA : delA L f (s1, s2) = (0, delO (f, s1, s2) L) := by unfold delA; rw [if_pos hm]
        have hfin := (DTo.set hp0 ho).back hkb
        simp -implicitDefEqProofs [e0, e8, hc', hl, hlo, hne, hne', ho.row.cells1, ho.row.one, hA]
        exact hfin
      · have hne : (delO (f, s1, s2) L).length = L.length := delO_all.2 hm
        have hA : delA L f (s1, s2) = (6, L) := by unfold delA; rw [if_neg hm]
        simp -implicitDefEqProofs [e0, e8, hc', hl, hlo, hne, hA]
        exact ⟨hp0.keep ho.k, (hkb.trans ho.k (H := fun _ => False) (fun _ _ h => h) (fun _ _ h => h)).mono fun _ _ h => h.elim⟩
  · exact ⟨0, by simp, Nat.zero_le _, by simp, by simp, by simp, by simp, by simp [delO]; exact Out.nil _ _⟩
end Go.Proofs.Ytcfhhfdkecbphaa
