/-
  Objects: Drop, Len.
-/
import Derived.Test.YtkplodhjceieeaaXf
namespace Go.Proofs.Ytkplodhjceieeaa
open Go Go.Ideal

def goneL (s : OS) (id : Int) : OS := { held := s.held.set id.toNat 0, l := s.l.filter fun o => decide (o.id ≠ id) }
theorem held_gone {s : OS} {id : Int} (h : 0 < heldA s id) (j : Int) : heldA (goneL s id) j = if j = id then 0 else heldA s j := held_put h 0 j
theorem page_gone (s : OS) (id i q : Int) : pageA (goneL s id) i q = if i = id then none else pageA s i q := by
  by_cases h : i = id
  · rw [if_pos h]
    refine page_none.2 fun o ho e => ?_
    have := (List.mem_filter.1 ho).2
    simp only [ne_eq, decide_eq_true_eq] at this
    exact this (by omega)
  · rw [if_neg h]
    unfold pageA goneL
    rw [List.find?_filter]
    apply find_congr
    intro o _
    rw [Bool.eq_iff_iff]
    simp only [ne_eq, Bool.and_eq_true, decide_eq_true_eq]
    constructor
    · exact fun e => e.2
    · exact fun e => ⟨by omega, e⟩
theorem own_gone {s : OS} {B : Nat} (hs : s.ok B) (id f : Int) : ownA (goneL s id) f = if hasF s id f = true then none else ownA s f := by
  by_cases h : hasF s id f = true
  · rw [if_pos h]
    obtain ⟨o, h1, h2⟩ := hasF_iff.1 h
    refine own_none.2 fun x hx e => ?_
    obtain ⟨hx1, hx2⟩ := List.mem_filter.1 hx
    have h3 := own_of hs hx1
    rw [e, h1] at h3
    simp only [Option.some.injEq] at h3
    simp only [ne_eq, decide_eq_true_eq] at hx2
    exact hx2 (by rw [← h3]; exact h2)
  · rw [if_neg h]
    unfold ownA goneL
    rw [List.find?_filter]
    apply find_congr
    intro o ho
    rw [Bool.eq_iff_iff]
    simp only [ne_eq, Bool.and_eq_true, decide_eq_true_eq]
    refine ⟨fun e => e.2, fun e => ⟨fun h2 => h (hasF_iff.2 ⟨o, ?_, h2⟩), e⟩⟩
    have := own_of hs ho
    rw [e] at this; exact this
theorem gone_ok {s : OS} {B : Nat} (h : s.ok B) {id : Int} (hl : 0 < heldA s id) : (goneL s id).ok B where
  fr := h.fr.sublist ((List.filter_sublist ..).map _)
  pg := h.pg.sublist ((List.filter_sublist ..).map _)
  on := fun o ho => by
    obtain ⟨h1, h2⟩ := List.mem_filter.1 ho
    obtain ⟨h3, h4⟩ := h.on o h1
    refine ⟨?_, h4⟩
    simp only [ne_eq, decide_eq_true_eq] at h2
    rw [held_gone hl, if_neg h2]; exact h3
  len := by unfold goneL; rw [List.length_set]; exact h.len
  bd := fun y hy => by
    rcases List.mem_or_eq_of_mem_set hy with hy | rfl
    · exact h.bd y hy
    · omega

def dropO (s : OS) (id : Int) : (List Int × Int) × OS :=
  if ¬ 0 < heldA s id then (([], 6), s) else if 0 < heldA s id - 1 then (([], 0), putH s id (heldA s id - 1)) else ((framesA s id, 0), goneL s id)
theorem drop_ok {s : OS} {B : Nat} (h : s.ok B) (id : Int) : (dropO s id).2.ok B := by
  unfold dropO
  split
  · exact h
  · rename_i h1
    have := held_bd h id
    split
    · exact put_ok h (by omega) (by omega) (by omega) (Nat.le_refl _)
    · exact gone_ok h (by omega)

def delAll (m : MapL) (l : List Int) : MapL := l.foldl delM m
theorem delAll_nodup : ∀ (l : List Int) {m : MapL}, (keysM m).Nodup → (keysM (delAll m l)).Nodup
  | [], _, h => h
  | a :: l, _, h => delAll_nodup l (nodup_del h a)
theorem delAll_get : ∀ (l : List Int) {m : MapL}, (keysM m).Nodup → ∀ f, getM (delAll m l) f = if f ∈ l then none else getM m f
  | [], _, _, _ => by simp [delAll]
  | a :: l, m, h, f => by
    show getM (delAll (delM m a) l) f = _
    rw [delAll_get l (nodup_del h a), getM_del h]
    by_cases h1 : f ∈ l
    · rw [if_pos h1, if_pos (by simp [h1])]
    · rw [if_neg h1]
      by_cases h2 : f = a
      · rw [if_pos h2, if_pos (by simp [h2])]
      · rw [if_neg h2, if_neg (by simp [h1, h2])]
theorem delAll_snoc (m : MapL) (l : List Int) (a : Int) : delAll m (l ++ [a]) = delM (delAll m l) a := by simp [delAll]

structure Frs (K : Kont) : Prop where
  o : Own K
  frames : ∀ {w : World} {b l : Nat} {pb pf : Int → Nat} {s : OS} {B : Nat}, ObjR w b l pb pf s → s.ok B → ∀ id, (K.enter 20 #[pt b, n64 id] w).all fun x => RowE (EInt 3) x.2 x.1 (framesA s id) ∧ Keeps w x.2 (fun _ => False) ∧ ∀ j, blkOf x.1 = some j → w.heap.size ≤ j
theorem frs (m : Nat) (hm : 4000 ≤ m) : Frs (KR (m + 3)) where
  o := own0 (m + 2)
  frames := fun hp hs id => enter_okH (m := m + 2) low20 (by simp [sortH]) (run20 (find (m + 1)) (hasSort (m + 1)) (by omega) hp hs id)

set_option maxRecDepth 20000 in
theorem run19 {K : Kont} {fuel : Nat} (hK : Frs K) (hf : 4000 ≤ fuel) {w : World} {b l r : Nat} {pb pf : Int → Nat} {s : OS} {B : Nat} (hp : ObjAt w b l r pb pf s) (hs : s.ok B) (hB : B < 1000000) (id : Int) :
    wpGFn Try.prog K fuel 19 g19 #[pt b, n64 id] w fun v w' => ∃ vr, v = .tuple #[vr, n64 (dropO s id).1.2] ∧ RowE (EInt 3) w' vr (dropO s id).1.1 ∧ (∀ j, blkOf vr = some j → w.heap.size ≤ j) ∧ ObjAt w' b l r pb pf (dropO s id).2 ∧ KeepT w w' := by
  rw [gfn_start]
  simp -implicitDefEqProofs [g19]
  refine valA_of (hK.o.f.find hp.r id) (fun u w1 hq => ?_)
  obtain ⟨hu, hw⟩ := hq
  simp only at hu hw
  subst hu hw
  have hbd := held_bd hs id
  have hw : IntKind.i64.wrap (heldA s id - 1) = heldA s id - 1 := by rw [IntKind.wrap_i64]; omega
  by_cases h : 0 < heldA s id
  · have hob := hp.obj id h
    have hlt := cells_lt hob
    by_cases h2 : 0 < heldA s id - 1
    · have h3 : 1 < heldA s id := by omega
      have hd : dropO s id = (([], 0), putH s id (heldA s id - 1)) := by unfold dropO; rw [if_neg (by simpa using h), if_pos h2]
      have hput := hp.put h h2
      simp -implicitDefEqProofs [findP, findE, h, hob, hlt, hw, h2, h3, hd]
      exact ⟨RowE.nil _, hput.1, hput.2⟩
    · have h3 : heldA s id = 1 := by omega
      have hd : dropO s id = ((framesA s id, 0), goneL s id) := by unfold dropO; rw [if_neg (by simpa using h), if_neg h2]
      have hw0 : IntKind.i64.wrap 0 = 0 := rfl
      rw [h3] at hob
      have k0 : Keeps w1 (World.set w1 (pb id) (.cells #[n64 0, .map (some (pf id))] 85)) (fun j => j = pb id) := Keeps.set _ _ _ (fun _ => rfl)
      have c0 : cellsOf? (World.set w1 (pb id) (.cells #[n64 0, .map (some (pf id))] 85)) (pb id) = some (#[n64 0, .map (some (pf id))], 85, (0, 0)) := by simp [hlt]
      simp -implicitDefEqProofs [findP, findE, h, hob, hlt, hw0, hd]
      generalize World.set w1 (pb id) (.cells #[n64 0, .map (some (pf id))] 85) = w2 at *
      have nm : ∀ {q : Nat} {m : MapL}, MapAt w1 q m → ¬ q = pb id := fun hm e => by subst e; rw [hm.nocells] at hob; cases hob
      have hc2 : cellsOf? w2 b = some (#[n64 s.held.length, .map (some l), .map (some r)], 81, (0, 0)) := k0.cells hp.cell (fun e => by have := hp.cell; rw [e, hob] at this; simp at this)
      have ho2 : ∀ j, j ≠ id → 0 < heldA s j → cellsOf? w2 (pb j) = some (#[n64 (heldA s j), .map (some (pf j))], 85, (0, 0)) := fun j hj hl => k0.cells (hp.obj j hl) (fun e => hj (hp.inj j id hl h e))
      have hR : ObjR w2 b l pb pf s := by
        refine ⟨⟨_, _, hc2⟩, ?_, fun j hj => ?_, fun j hj => ?_⟩
        · obtain ⟨m, h5, h6⟩ := hp.ml; exact ⟨m, h5.keep k0 (nm h5), h6⟩
        · by_cases hji : j = id
          · subst hji; exact ⟨_, c0⟩
          · exact ⟨_, ho2 j hji hj⟩
        · obtain ⟨m, h5, h6⟩ := hp.frs j hj; exact ⟨m, h5.keep k0 (nm h5), h6⟩
      obtain ⟨mo, hmo, hgo⟩ := hp.mo
      obtain ⟨ml, hml, hgl⟩ := hp.ml
      have hmo2 := hmo.keep k0 (nm hmo)
      have hml2 := hml.keep k0 (nm hml)
      refine valA_of (hK.frames hR hs id) (fun v w3 hq => ?_)
      obtain ⟨hrow, hk3, hvb⟩ := hq
      simp only at hrow hk3 hvb
      have hmo3 := hmo2.keep hk3 (fun h => h)
      have hml3 := hml2.keep hk3 (fun h => h)
      have hc3 := hk3.cells hc2 (fun h => h)
      have hlen : (framesA s id).length ≤ 1024 := free_len _
      have nc : ∀ {j c e fz}, cellsOf? w3 j = some (c, e, fz) → ¬ j = r := fun hc e => by subst e; rw [hmo3.nocells] at hc; cases hc
      have rlt := hmo2.lt
      have llt := hml2.lt
      have nrow : ∀ j, blkOf v = some j → ¬ j = r ∧ ¬ j = l := fun j hj => by have := hvb j hj; omega
      simp -implicitDefEqProofs [hrow.lenS]
      refine loop_go (fun i ρ w' => ∃ (q : Nat), i = (framesA s id).length - q ∧ q ≤ (framesA s id).length ∧ Keeps w3 w' (fun j => j = r) ∧ MapAt w' r (delAll mo ((framesA s id).take q)) ∧ ρ 0 = pt b ∧ ρ 1 = n64 id ∧ ρ 8 = v ∧ ρ 35 = v ∧ ρ 36 = n64 (framesA s id).length ∧ ρ 37 = n64 q) ?_ (i := (framesA s id).length) ?_ (by show (framesA s id).length < fuel; omega)
      · rintro i ρ w' ⟨q, rfl, hq, hk', hm', e0, e1, e8, e35, e36, e37⟩
        have w1' : IntKind.i64.wrap ((q : Int) + 1) = (q : Int) + 1 := by rw [IntKind.wrap_i64]; omega
        have hcb := hk'.cells hc3 (nc hc3)
        by_cases hql : q < (framesA s id).length
        · have hql' : (q : Int) < (framesA s id).length := by omega
          obtain ⟨bb, oo, cap, c, t, z, hv, hc, hsz, _, ha⟩ := (hrow.keep hk' (fun j hj => (nrow j hj).1)).src.at hql
          have a0 := ha 0 Nat.one_pos
          simp only [EInt, Nat.mul_one, Nat.add_zero, List.getElem?_cons_zero] at a0
          simp -implicitDefEqProofs [e0, e35, e36, e37, hql', hv, hc, a0, hql, hcb]
          refine deleteA (m := delAll mo ((framesA s id).take q)) hm' (fun es n hm2 => ?_)
          have k4 : Keeps w' (World.set w' r (.map es n)) (fun j => j = r) := Keeps.set _ _ _ (fun _ => rfl)
          simp -implicitDefEqProofs [e37, w1']
          refine ⟨(framesA s id).length - (q + 1), by omega, q + 1, rfl, by omega, hk'.trans k4 (fun _ _ h => h) (fun _ _ h => h), ?_, e0, e1, by rw [e8, hv], by rw [← hv]; exact e35, e36, by omega⟩
          rw [List.take_succ_eq_append_getElem hql, delAll_snoc]
          exact hm2
        · have hqe : q = (framesA s id).length := by omega
          subst hqe
          rw [List.take_length] at hm'
          simp -implicitDefEqProofs [e0, e1, e8, e36, e37, hcb]
          have hml4 := hml3.keep hk' hp.ne
          refine deleteA (m := ml) hml4 (fun es n hm2 => ?_)
          have k4 : Keeps w' (World.set w' l (.map es n)) (fun j => j = l) := Keeps.set _ _ _ (fun _ => rfl)
          simp -implicitDefEqProofs [e8]
          have k24 : Keeps w2 (World.set w' l (.map es n)) (fun j => j = r ∨ j = l) := hk3.trans (hk'.trans k4 (H := fun j => j = r ∨ j = l) (fun _ _ h => .inl h) (fun _ _ h => .inr h)) (fun _ _ h => h.elim) (fun _ _ h => h)
          have kall : Keeps w1 (World.set w' l (.map es n)) (fun j => j = pb id ∨ j = r ∨ j = l) := k0.trans k24 (fun _ _ h => .inl h) (fun _ _ h => .inr h)
          have n2 : ∀ {j c e fz}, cellsOf? w2 j = some (c, e, fz) → ¬ (j = r ∨ j = l) := fun hc e => by
            rcases e with e | e
            · subst e; rw [hmo2.nocells] at hc; cases hc
            · subst e; rw [hml2.nocells] at hc; cases hc
          have hl' : ∀ j, 0 < heldA (goneL s id) j → j ≠ id ∧ 0 < heldA s j := fun j hj => by
            rw [held_gone h] at hj
            split at hj
            · omega
            · rename_i e; exact ⟨e, hj⟩
          refine ⟨hrow.keep (hk'.trans k4 (H := fun j => j = r ∨ j = l) (fun _ _ h => .inl h) (fun _ _ h => .inr h)) (fun j hj h => h.elim (nrow j hj).1 (nrow j hj).2), fun j hj => ?_, ⟨?_, ⟨_, hm2, fun j => ?_⟩, ⟨_, hm'.keep k4 (fun e => hp.ne e.symm), fun f => ?_⟩, fun j hj => ?_, fun j hj => ?_, fun i j hi hj => hp.inj i j (hl' i hi).2 (hl' j hj).2, fun i j hi hj => hp.injf i j (hl' i hi).2 (hl' j hj).2, hp.ne, fun i hi => hp.nef i (hl' i hi).2⟩, KeepT.of kall fun j c e fz hj hc => ?_⟩
          · have := hvb j hj
            have := k0.1
            omega
          · have := k24.cells hc2 (n2 hc2)
            rw [this]; simp [goneL]
          · rw [getM_del hml.nodup, hgl, held_gone h]
            by_cases hji : j = id
            · rw [if_pos hji, if_pos hji, if_neg (by omega)]
            · rw [if_neg hji, if_neg hji]
          · rw [delAll_get _ hmo.nodup, hgo, own_gone hs]
            by_cases hh : hasF s id f = true
            · have : f ∈ framesA s id := by
                obtain ⟨o, h5, h6⟩ := hasF_iff.1 hh
                obtain ⟨h7, h8⟩ := own_some h5
                exact frames_mem.2 ⟨by rw [← h8]; exact (hs.on o h7).2.2, o, h5, h6⟩
              rw [if_pos this, if_pos hh]; rfl
            · have : ¬ f ∈ framesA s id := fun h5 => hh (hasF_iff.2 (frames_mem.1 h5).2)
              rw [if_neg this, if_neg hh]
          · obtain ⟨g1, g2⟩ := hl' j hj
            rw [held_gone h, if_neg g1]
            exact k24.cells (ho2 j g1 g2) (n2 (ho2 j g1 g2))
          · obtain ⟨g1, g2⟩ := hl' j hj
            obtain ⟨m, h5, h6⟩ := hp.frs j g2
            refine ⟨m, h5.keep kall (fun e => ?_), fun p => by rw [page_gone, if_neg g1]; exact h6 p⟩
            have := hp.nef j g2
            rcases e with e | e | e
            · exact nm h5 e
            · exact this.2 e
            · exact this.1 e
          · rcases hj with rfl | rfl | rfl
            · rw [hob] at hc; simp at hc; exact ⟨hc.2.2.symm, .inr hc.2.1.symm⟩
            · rw [hmo.nocells] at hc; cases hc
            · rw [hml.nocells] at hc; cases hc
      · exact ⟨0, by omega, Nat.zero_le _, Keeps.refl _ _, hmo3, by simp, by simp, by simp, by simp, by simp, by simp⟩
  · have hd : dropO s id = (([], 6), s) := by unfold dropO; rw [if_pos h]
    simp -implicitDefEqProofs [findP, findE, h, hd]
    exact ⟨RowE.nil _, hp, KeepT.refl _⟩
end Go.Proofs.Ytkplodhjceieeaa
