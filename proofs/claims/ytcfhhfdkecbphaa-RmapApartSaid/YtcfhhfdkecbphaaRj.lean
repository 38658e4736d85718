/-
  Rmap: Frames; all the program's calls; 'awake'.
-/
import Derived.Test.YtcfhhfdkecbphaaRi
namespace Go.Proofs.Ytcfhhfdkecbphaa
open Go Go.Ideal Go.ChangeShapes

/-- A sort of a row of numbers. -/
theorem sort_row {te : TypeId} {w : World} {v : Value} {xs : List Int} (h : RowE (EInt te) w v xs) (hl : xs.length ≤ 1000000) :
    (sortS #[v] w).all fun x => x.1 = .tuple #[] ∧ RowE (EInt te) x.2 v (sorted xs) ∧ Keeps w x.2 (fun j => blkOf v = some j) := by
  have hO : OPEN = 4611686018427387904 := rfl
  rcases h with ⟨rfl, rfl⟩ | ⟨b, o, cap, c, rfl, hc, h1, ⟨rfl, rfl⟩ | ⟨h2, h3⟩⟩
  · simp only [sortS, if_true]
    exact ⟨rfl, .inl ⟨rfl, by simp [sorted]⟩, Keeps.refl _ _⟩
  · simp only [sortS, List.length_nil, if_true]
    exact ⟨rfl, .inr ⟨b, o, 0, c, by simp [sorted], hc, h1, .inl ⟨by simp [sorted], rfl⟩⟩, Keeps.refl _ _⟩
  · have hsz := RowE.size h1 h2
    have hfl : ∀ l : List Int, flat (EInt te) l = l.map (Value.int .i64) := by
      intro l
      induction l with
      | nil => rfl
      | cons a l ih => simp only [flat, ih, List.map_cons]; rfl
    simp only [EInt, Nat.mul_one] at hsz
    by_cases h0 : xs.length = 0
    · have hx : xs = [] := List.length_eq_zero_iff.1 h0
      subst hx
      simp only [sortS, List.length_nil, if_true]
      refine ⟨rfl, .inr ⟨b, o, cap, c, by simp [sorted], hc, h1, .inr ⟨by simpa [sorted] using h2, by simpa [sorted] using h3⟩⟩, Keeps.refl _ _⟩
    · simp only [sortS, if_neg h0, hc]
      rw [if_pos ⟨by omega, by omega⟩]
      have hints : intsOf (c.extract o (o + xs.length)).toList = some xs := by
        rw [Array.toList_extract, List.extract_eq_take_drop, h2, hfl, show o + xs.length - o = (xs.map (Value.int .i64)).length by simp, List.take_length, intsOf_map]
      simp only [hints]
      have hlen : ((sorted xs).map (Value.int .i64)).length = xs.length := by simp [sorted_len]
      have hl := putCells_list ((sorted xs).map (Value.int .i64)) c o (by rw [hlen]; omega)
      refine ⟨rfl, .inr ⟨b, o, cap, _, by rw [sorted_len], by simp [cells_lt hc]; rfl, by rw [putCells_size]; exact h1, .inr ⟨?_, ?_⟩⟩, Keeps.set _ _ _ (fun _ => rfl)⟩
      · rw [hl, hlen, hfl]
        have h4 : c.toList.drop (o + xs.length) = [] := List.drop_eq_nil_of_le (by simp; omega)
        have h5 : (c.toList.take o).length = o := by rw [List.length_take, Array.length_toList]; omega
        rw [h4, List.append_nil, List.drop_append_of_le_length (by omega), List.drop_of_length_le (by omega), List.nil_append]
      · rw [sorted_len]; exact h3

theorem nodup_sub : ∀ {l m : List Int}, l.Nodup → (∀ x ∈ l, x ∈ m) → l.length ≤ m.length
  | [], _, _, _ => Nat.zero_le _
  | a :: l, m, hn, hs => by
    have ham : a ∈ m := hs a (by simp)
    have h1 := nodup_sub (l := l) (m := m.erase a) (List.nodup_cons.1 hn).2 (fun x hx => by
      have hxa : x ≠ a := fun e => by subst e; exact (List.nodup_cons.1 hn).1 hx
      exact (List.mem_erase_of_ne hxa).2 (hs x (by simp [hx])))
    rw [List.length_erase_of_mem ham] at h1
    have := List.length_pos_of_mem ham
    simp only [List.length_cons]
    omega

theorem MpAt.keys {w : World} {b r : Nat} {m : MapL} {L : List On} (h : MpAt w b r m L) (x : Int) : x ∈ keysM m ↔ spots L x ≠ [] := by
  have h1 := h.no x
  rw [getM_none] at h1
  constructor
  · intro h2 h3; exact (h1.2 h3) h2
  · intro h2; exact Decidable.byContradiction fun h3 => h2 (h1.1 h3)

theorem run12 {K : Kont} {fuel : Nat} (hI : Ins K) (hf : 2000000 ≤ fuel) {w : World} {b r : Nat} {m : MapL} {L : List On} (hp : MpAt w b r m L) (hL : Srt L) (hn : L.length ≤ 800000) :
    wpGFn Try.prog K fuel 12 g12 #[pt b] w fun v w' => RowE (EInt 3) w' v (frames L) ∧ Keeps w w' (fun _ => False) ∧ ∀ j, blkOf v = some j → w.heap.size ≤ j := by
  rw [gfn_start]
  have hm := hp.map
  have hml : m.length ≤ 800000 := by
    have h1 : (keysM m).length ≤ (frames L).length := nodup_sub hm.nodup (fun k hk => frames_mem.2 ((hp.keys k).1 hk))
    have h2 := frames_len L
    simp only [keysM, List.length_map] at h1
    omega
  simp -implicitDefEqProofs [g12, nil23, hp.cell]
  refine mrange_go (m := m) (r := r) under49 (by simp) rfl hm (fun o hit hno hk1 => ?_)
  simp -implicitDefEqProofs
  generalize hw1 : World.push w o = w1 at *
  refine loop_go (fun i ρ w' => ∃ (done : List Int) (v : Value), i = m.length - done.length ∧ Iter w' w.heap.size r m done ∧ Keeps w1 w' (fun j => j = w.heap.size) ∧ ρ 12 = pt w.heap.size ∧ ρ 3 = v ∧ RowE (EInt 3) w' v done ∧ ∀ j, blkOf v = some j → w1.heap.size ≤ j) ?_ (i := m.length) ?_ (by show m.length < fuel; omega)
  · rintro i ρ w' ⟨done, v, rfl, hit, hk, e9, e2, hv, hvb⟩
    subst e2
    have hdl : done.length ≤ m.length := by
      have := nodup_sub hit.nodup hit.sub
      simpa [keysM] using this
    simp -implicitDefEqProofs
    refine next_go (m := m) (it := w.heap.size) (r := r) (done := done) (by simp [e9]) rfl hit (fun hall => ?_) (fun k u w2 hg hkn hit2 hk2 => ?_)
    · simp -implicitDefEqProofs
      rw [hI.sort]
      have hmem : ∀ x, x ∈ done ↔ spots L x ≠ [] := fun x => by
        rw [← hp.keys x]
        exact ⟨fun h => hit.sub x h, fun h => hall x h⟩
      refine valA_of (sort_row hv (by omega)) (fun v3 w3 hq => ?_)
      obtain ⟨hv3, hrow, hk3⟩ := hq
      simp only at hv3 hrow hk3
      rw [sorted_frames hL hit.nodup hmem] at hrow
      simp -implicitDefEqProofs
      refine ⟨hrow, ?_, fun j hj => ?_⟩
      · have hsz := hk1.1
        exact hk1.trans (hk.trans hk3 (H := fun j => w.heap.size ≤ j) (fun j _ h => by omega) (fun j _ h => by have := hvb j h; omega)) (fun _ _ h => h) (fun j hj h => by omega)
      · have := hvb j hj
        have := hk1.1
        omega
    · simp -implicitDefEqProofs [e9]
      refine entry_go (m := m) (it := w.heap.size) (r := r) (done := done) (k := k) (v := u) (by simp [e9]) rfl hit2 hg ?_
      have hcnt : (done ++ [k]).length ≤ m.length := by
        have := nodup_sub hit2.nodup hit2.sub
        simpa [keysM] using this
      have hk12 : Keeps w1 w2 (fun j => j = w.heap.size) := hk.trans hk2 (fun _ _ h => h) (fun _ _ h => h)
      have hwlt : w.heap.size < w1.heap.size := by rw [← hw1]; simp
      have hv2 := hv.keep hk2 (fun j hj => by have := hvb j hj; omega)
      rw [List.length_append, List.length_singleton] at hcnt
      simp -implicitDefEqProofs [row1]
      have hkp : Keeps w2 (World.push w2 (.cells #[.int .i64 k] 3)) (fun _ => False) := Keeps.push _ _ _
      refine appE (E := EInt 3) (by_ := 8) (hv2.keep hkp (fun _ _ h => h)) (src_int (c := 3) (n := k) (by simp)) (by simp; omega) (by decide) (fun v4 w4 hr4 hk4 _ hb4 => ?_)
      have hk24 := hkp.trans hk4 (H := fun j => blkOf (ρ 3) = some j) (fun _ _ h => h.elim) (fun _ _ h => h)
      simp -implicitDefEqProofs
      refine ⟨m.length - (done ++ [k]).length, by simp; omega, done ++ [k], rfl, hit2.keep hk24 (fun h => ?_) (fun h => ?_), hk12.trans hk24 (fun _ _ h => h) (fun j hj h => ?_), e9, hr4, fun j hj => ?_⟩
      · have := hvb r h; have := hm.lt; omega
      · have := hvb _ h; omega
      · have := hvb j h; omega
      · rw [hb4 (by simp)] at hj
        simp at hj
        have := hk12.1
        omega
  · exact ⟨[], .slice none 0 0, by simp, hit, Keeps.refl _ _, by simp, by simp, RowE.nil _, fun j hj => by cases hj⟩

set_option maxRecDepth 100000 in
theorem ran8 : ((run Try.prog 100).enter 8 #[] default).allB isTrue = true := by kernel_rfl

/-- The library's three, and 'awake'. -/
def mapH : HeapAns := fun f a w => if f = 8 ∧ a.size = 0 then some (.ret (.bool true, w)) else rowH f a w
theorem mapHL : LaidH Try.prog mapH where
  calls := fun {B w0 β σ w f args args' t Q} hR ha hf hQ => by
    unfold mapH at hf
    split at hf
    · rename_i h
      simp only [Option.some.injEq] at hf
      subst hf
      obtain ⟨rfl, h0⟩ := h
      have h1 : args' = #[] := by
        have := ha.1
        apply Array.eq_empty_of_size_eq_zero
        omega
      subst h1
      refine (calls_closed mixed ran8 w).mono fun e w' he => ?_
      obtain ⟨rfl, hb⟩ := he
      exact ⟨β, .bool true, σ, .refl _, hR.grow hb, .bool _, hQ⟩
    · exact rowL.calls hR ha hf hQ

noncomputable abbrev KM (m : Nat) : Kont := runH Try.prog mapH m
theorem m0 {f : FuncId} {a : Array Value} {w : World} (h1 : f ≠ 8) (h2 : f ≠ 24) (h3 : f ≠ 25) (h4 : f ≠ 26) : mapH f a w = none := by simp [mapH, rowH, orH, sortH, insH, delH, h1, h2, h3, h4]

theorem insM (m : Nat) : Ins (KM (m + 1)) where
  go := fun {w v l} hv hn {s vb i} hi hvb hne => by
    by_cases h : i < l.length
    · obtain ⟨v', w', he, h1, h2, h3⟩ := insE hv (by omega) h hvb hne
      have : (KM (m + 1)).enter 24 #[v, .int .i64 i, .slice (some ⟨vb, 0, none⟩) 1 1] w = .ret (v', w') := by
        simp [runH, mapH, rowH, orH, sortH, insH, he]
      rw [this]
      exact ⟨h1, h2, h3⟩
    · have hil : i = l.length := by omega
      subst hil
      rw [take_all]
      obtain ⟨vb', vc, rfl⟩ := hv.shape
      refine enter_okH (m := m) low24 ?_ (run24 hv hn hvb)
      simp [mapH, rowH, orH, sortH, insH, delH, ins_none]
  del := fun {w v l} hv hn {i} hi => by
    obtain ⟨v', w', he, h1, h2, h3⟩ := delE hv (by omega) hi
    have : (KM (m + 1)).enter 25 #[v, .int .i64 i, .int .i64 ((i : Int) + 1)] w = .ret (v', w') := by
      simp [runH, mapH, rowH, orH, sortH, insH, delH, he]
    rw [this]
    exact ⟨h1, h2, h3⟩
  sort := fun v w => by simp [runH, mapH, rowH, orH, sortH]

theorem cmp0M (m : Nat) : Cmp0 (KM (m + 1)) := ⟨fun w a b => enter_okH (m := m) low30 (m0 (by decide) (by decide) (by decide) (by decide)) (run30 a b)⟩
theorem cmp1M (m : Nat) : Cmp1 (KM (m + 2)) := ⟨fun w a b => enter_okH (m := m + 1) low23 (m0 (by decide) (by decide) (by decide) (by decide)) (run23 (cmp0M m) a b)⟩
theorem srchM (m : Nat) (hm : 2000000 ≤ m) : Srch (KM (m + 3)) := ⟨fun hv hl hn s => enter_okH (m := m + 2) low22 (m0 (by decide) (by decide) (by decide) (by decide)) (run22 (cmp1M m) (by omega) hv hl hn s)⟩

structure Maps (K : Kont) : Prop where
  awake : ∀ w, (K.enter 8 #[] w).all fun x => x.1 = .bool true ∧ x.2 = w
  new : ∀ w, (K.enter 7 #[] w).all fun z => ∃ b r, z.1 = pt b ∧ MpAt z.2 b r [] [] ∧ Keeps w z.2 (fun _ => False)
  add : ∀ {w : World} {b r : Nat} {m : MapL} {L : List On}, MpAt w b r m L → Srt L → L.length ≤ 800000 → ∀ f s, (K.enter 9 #[pt b, n64 f, spV s] w).all fun z => z.1 = n64 (addA L f s).1 ∧ RTo w z.2 b r (addA L f s).2
  del : ∀ {w : World} {b r : Nat} {m : MapL} {L : List On}, MpAt w b r m L → Srt L → L.length ≤ 800000 → ∀ f s, (K.enter 10 #[pt b, n64 f, spV s] w).all fun z => z.1 = n64 (delA L f s).1 ∧ RTo w z.2 b r (delA L f s).2
  move : ∀ {w : World} {b r : Nat} {m : MapL} {L : List On}, MpAt w b r m L → Srt L → ∀ x y, (K.enter 11 #[pt b, n64 x, n64 y] w).all fun z => z.1 = n64 (moveA L x y).1 ∧ (∃ m', MpAt z.2 b r m' (moveA L x y).2) ∧ Keeps w z.2 (fun j => j = r)
  frames : ∀ {w : World} {b r : Nat} {m : MapL} {L : List On}, MpAt w b r m L → Srt L → L.length ≤ 800000 → (K.enter 12 #[pt b] w).all fun z => RowE (EInt 3) z.2 z.1 (frames L) ∧ Keeps w z.2 (fun _ => False) ∧ ∀ j, blkOf z.1 = some j → w.heap.size ≤ j
  count : ∀ {w : World} {b r : Nat} {m : MapL} {L : List On}, MpAt w b r m L → ∀ f, (K.enter 13 #[pt b, n64 f] w).all fun z => z.1 = n64 (spots L f).length ∧ z.2 = w
  spots : ∀ {w : World} {b r : Nat} {m : MapL} {L : List On}, MpAt w b r m L → ∀ f, L.length ≤ 900000 → (K.enter 14 #[pt b, n64 f] w).all fun z => RowE ESp z.2 z.1 (spots L f) ∧ Keeps w z.2 (fun _ => False)

theorem maps (m : Nat) (hm : 2000000 ≤ m) : Maps (KM (m + 4)) where
  awake := fun w => by simp [runH, mapH]
  new := fun w => enter_okH (m := m + 3) low7 (m0 (by decide) (by decide) (by decide) (by decide)) run7
  add := fun hp hL hn f s => enter_okH (m := m + 3) low9 (m0 (by decide) (by decide) (by decide) (by decide)) (run9 (srchM m hm) (insM (m + 2)) hp hL hn f s)
  del := fun hp hL hn f s => enter_okH (m := m + 3) low10 (m0 (by decide) (by decide) (by decide) (by decide)) (run10 (srchM m hm) (insM (m + 2)) hp hL hn f s)
  move := fun hp hL x y => enter_okH (m := m + 3) low11 (m0 (by decide) (by decide) (by decide) (by decide)) (run11 hp hL x y)
  frames := fun hp hL hn => enter_okH (m := m + 3) low12 (m0 (by decide) (by decide) (by decide) (by decide)) (run12 (insM (m + 2)) (by omega) hp hL hn)
  count := fun hp f => enter_okH (m := m + 3) low13 (m0 (by decide) (by decide) (by decide) (by decide)) (run13 hp f)
  spots := fun hp f hn => enter_okH (m := m + 3) low14 (m0 (by decide) (by decide) (by decide) (by decide)) (run14 hp f hn)
end Go.Proofs.Ytcfhhfdkecbphaa
