/-
  Rmap: the document's Move; all its calls.
-/
import Derived.Test.YtcfhhfdkecbphaaRn
namespace Go.Proofs.Ytcfhhfdkecbphaa
open Go Go.Ideal

theorem move_step {a b : Int} (hab : a ≠ b) {M : List On} {s : Sp} {l p : List Sp} (h : Srt M) (h1 : spots M a = s :: l) (h3 : spots M b = p) (h2 : ∀ x ∈ p, ltS x s) :
    (a, s) ∈ M ∧ (b, s) ∉ delO (a, s) M ∧ Srt (stepM a b M s) ∧ spots (stepM a b M s) a = l ∧ spots (stepM a b M s) b = p ++ [s] ∧ (stepM a b M s).length = M.length := by
  have hs : (a, s) ∈ M := spots_mem.1 (by rw [h1]; simp)
  have hd := delO_srt (x := (a, s)) h
  have hsrt := spots_srt h a
  rw [h1, List.pairwise_cons] at hsrt
  have hb : (b, s) ∉ delO (a, s) M := fun hm => by
    have : s ∈ spots M b := spots_mem.2 (List.mem_filter.1 hm).1
    rw [h3] at this
    exact ltS_irrefl _ (h2 s this)
  have hsp := fun g => spots_ins hd hb g
  have hsd := fun g => spots_del (f := a) (s := s) M g
  refine ⟨hs, hb, insO_srt hd hb, ?_, ?_, ?_⟩
  · unfold stepM
    rw [hsp a, if_neg hab, hsd a, if_pos rfl, h1, List.filter_cons_of_neg (by simp), List.filter_eq_self.2]
    intro x hx; simp only [decide_eq_true_eq]; intro e; subst e; exact ltS_irrefl _ (hsrt.1 _ hx)
  · unfold stepM
    rw [hsp b, if_pos rfl, hsd b, if_neg (fun e => hab e.symm), h3]
    exact insP_end h2
  · have hl := delO_len h hs
    unfold stepM; rw [insO_len]; omega

structure Docs0 (K : Kont) : Prop where
  spots : ∀ {w : World} {x : Nat} {L : List On}, DocAt w x L → L.length ≤ 800000 → ∀ f, (K.enter 16 #[pt x, n64 f] w).all fun z => Out ESp w z.2 z.1 (spots L f)
  add : ∀ {w : World} {x : Nat} {L : List On}, DocAt w x L → L.length ≤ 800000 → ∀ f s, (K.enter 27 #[pt x, n64 f, spV s] w).all fun z => z.1 = n64 (addA L f s).1 ∧ DTo w z.2 x (addA L f s).2
  del : ∀ {w : World} {x : Nat} {L : List On}, DocAt w x L → L.length ≤ 800000 → ∀ f s, (K.enter 28 #[pt x, n64 f, spV s] w).all fun z => z.1 = n64 (delA L f s).1 ∧ DTo w z.2 x (delA L f s).2

theorem DocAt.lt {w : World} {x : Nat} {L : List On} (h : DocAt w x L) : x < w.heap.size := by obtain ⟨v, h, _⟩ := h; exact cells_lt h
theorem Out.far {w w1 w2 : World} {x : Nat} {u : Value} {l : List Sp} (h : RowE ESp w1 u l) (hn : ∀ j, blkOf u = some j → w.heap.size ≤ j) (hx : x < w.heap.size) (hk : Keeps w1 w2 (fun j => j = x)) : RowE ESp w2 u l :=
  h.keep hk fun j hj e => by have := hn j hj; omega

theorem run29 {K : Kont} {fuel : Nat} (hK : Docs0 K) {w : World} {x : Nat} {L : List On} {n : Nat} (hp : DocAt w x L) (hok : Ok L n) (hn : n ≤ 800000) (hf : 2000000 ≤ fuel) (a b : Int) : wpGFn Try.prog K fuel 29 g29 #[pt x, n64 a, n64 b] w fun z w' => z = n64 (moveA L a b).1 ∧ DTo w w' x (moveA L a b).2 := by
  rw [gfn_start]
  have hlt := hp.lt
  have hLn := hok.len
  by_cases c1 : b < 0
  · simp -implicitDefEqProofs [g29, c1, moveA]
    exact ⟨hp, Keeps.refl _ _⟩
  by_cases c2 : 1023 < b
  · have c2' : 1024 ≤ b := by omega
    simp -implicitDefEqProofs [g29, c1, c2, moveA, c2']
    exact ⟨hp, Keeps.refl _ _⟩
  have c2' : ¬ 1024 ≤ b := by omega
  have c2n : b ≤ 1023 := by omega
  simp -implicitDefEqProofs [g29, c1, c2, c2n]
  refine valA_of (hK.spots hp (by omega) a) (fun u w1 hq => ?_)
  obtain ⟨hu, hk1, hn1⟩ := hq
  simp only at hu hk1 hn1
  have hp1 := hp.keep hk1
  have hlu := fun w' => hu.lenS (w' := w')
  by_cases c3 : spots L a = []
  · have c3' : (spots L a).length = 0 := by rw [c3]; rfl
    have hA : moveA L a b = (6, L) := by unfold moveA; rw [if_neg (by omega), if_pos c3]
    simp -implicitDefEqProofs [hlu, c3', hA]
    exact ⟨hp1, hk1.mono fun _ _ h => h.elim⟩
  have c3' : ¬ (spots L a).length = 0 := fun h => c3 (List.length_eq_zero_iff.1 h)
  simp -implicitDefEqProofs [hlu, c3', c3]
  refine valA_of (hK.spots hp1 (by omega) b) (fun u2 w2 hq => ?_)
  obtain ⟨hu2, hk2, hn2⟩ := hq
  simp only at hu2 hk2 hn2
  have hp2 := hp1.keep hk2
  have hkw := hk1.trans hk2 (H := fun _ => False) (fun _ _ h => h) (fun _ _ h => h)
  have hlu2 := fun w' => hu2.lenS (w' := w')
  have hru := hu.keep hk2 (fun _ _ h => h)
  by_cases c4 : spots L b = []
  · have c4' : ¬ 0 < (spots L b).length := by rw [c4]; simp
    have hA : moveA L a b = (0, moveL a b L) := by unfold moveA; rw [if_neg (by omega), if_neg c3, if_neg (by simp [c4])]
    have hab : a ≠ b := fun e => by subst e; exact c3 c4
    have hsA := spots_srt hok.srt a
    simp -implicitDefEqProofs [hlu2, c4', c4]
    have hml : moveL a b L = (spots L a).foldl (stepM a b) L := rfl
    have hmem : ∀ s ∈ spots L a, ¬ badA b s := fun s hs => by
      have := hok.rng _ (spots_mem.1 hs)
      unfold badA at this ⊢
      simp only at this
      omega
    have hlb := spots_len L a
    generalize hlq : spots L a = l at *
    refine loop_go (fun i ρ w' => ∃ q : Nat, i = l.length - q ∧ q ≤ l.length ∧ ρ 0 = pt x ∧ ρ 1 = n64 a ∧ ρ 2 = n64 b ∧ ρ 7 = u ∧ ρ 8 = n64 q ∧ RowE ESp w' u l ∧ DTo w w' x ((l.take q).foldl (stepM a b) L) ∧
      Srt ((l.take q).foldl (stepM a b) L) ∧ spots ((l.take q).foldl (stepM a b) L) a = l.drop q ∧ spots ((l.take q).foldl (stepM a b) L) b = l.take q ∧ ((l.take q).foldl (stepM a b) L).length = L.length) ?_ (i := l.length) ?_ ?_
    · rintro i ρ w' ⟨q, rfl, hq, e0, e1, e2, e7, e8, hr, hD, hM, hMa, hMb, hMl⟩
      have x1 : IntKind.i64.wrap ((q : Int) + 1) = (q : Int) + 1 := by rw [IntKind.wrap_i64]; omega
      have hlr := fun w' => hr.lenS (w' := w')
      by_cases h : q < l.length
      · have h' : (q : Int) < l.length := by omega
        obtain ⟨b1, o1, p1, c1, hve, hc1, hs1, hx1⟩ := rowSp hr h
        have hMa' : spots ((l.take q).foldl (stepM a b) L) a = l[q] :: l.drop (q + 1) := by rw [hMa, List.drop_eq_getElem_cons h]
        have hfold : (l.take (q + 1)).foldl (stepM a b) L = stepM a b ((l.take q).foldl (stepM a b) L) l[q] := by
          rw [List.take_succ_eq_append_getElem h, List.foldl_append]; rfl
        generalize (l.take q).foldl (stepM a b) L = M at *
        obtain ⟨g1, g2, g3, g4, g5, g6⟩ := move_step hab hM hMa' hMb (fun y hy => by
          obtain ⟨j, hj, rfl⟩ := List.getElem_of_mem hy
          rw [List.length_take] at hj
          rw [List.getElem_take]
          exact List.pairwise_iff_getElem.1 hsA j q (by omega) h (by omega))
        have hls : M.length ≤ 800000 := by omega
        have hnb := hmem l[q] (List.getElem_mem h)
        rw [hve] at hlr
        have hrw := hve
        simp -implicitDefEqProofs [e0, e1, e2, e7, e8, h, h', hve, hlr, hc1, hs1, hx1]
        refine valA_of (hK.del hD.1 hls a l[q]) (fun u3 w3 hq3 => ?_)
        obtain ⟨_, hD3⟩ := hq3
        simp only at hD3
        rw [delA_snd] at hD3
        have hr3 := Out.far hr hn1 (w := w) hlt hD3.2
        obtain ⟨b2, o2, p2, c2, hve2, hc2, hs2, hx2⟩ := rowSp hr3 h
        rw [hve] at hve2
        simp only [Value.slice.injEq, Option.some.injEq, Addr.mk.injEq, and_true, true_and] at hve2
        obtain ⟨⟨rfl, rfl⟩, rfl⟩ := hve2
        simp -implicitDefEqProofs [e0, e1, e2, e7, e8, h, h', hve, hlr, hc2, hs2, hx2]
        refine valA_of (hK.add hD3.1 (by unfold delO; exact Nat.le_trans (List.length_filter_le _ _) hls) b l[q]) (fun u4 w4 hq4 => ?_)
        obtain ⟨_, hD4⟩ := hq4
        simp only at hD4
        have hadd : (addA (delO (a, l[q]) M) b l[q]).2 = stepM a b M l[q] := by unfold addA; rw [if_neg hnb, if_neg g2]; rfl
        rw [hadd] at hD4
        have hr4 := Out.far hr3 hn1 (w := w) hlt hD4.2
        have hDw : DTo w w4 x (stepM a b M l[q]) := ⟨hD4.1, hD.2.trans (hD3.2.trans hD4.2 (H := fun j => j = x) (fun _ _ h => h) (fun _ _ h => h)) (fun _ _ h => h) (fun _ _ h => h)⟩
        simp -implicitDefEqProofs [e0, e1, e2, e7, e8, x1]
        refine ⟨l.length - (q + 1), by omega, q + 1, rfl, by omega, hve, by omega, by rw [← hve]; exact hr4, ?_⟩
        rw [hfold]
        exact ⟨hDw, g3, g4, by rw [g5, List.take_succ_eq_append_getElem h], by omega⟩
      · have hq2 : q = l.length := by omega
        subst hq2
        rw [List.take_length] at hD
        simp -implicitDefEqProofs [e7, e8, hlr, hA]
        rw [hml]; exact hD
    · refine ⟨0, by simp, Nat.zero_le _, by simp, by simp, by simp, by simp, by simp, hru, ?_⟩
      rw [List.take_zero, List.foldl_nil]
      exact ⟨⟨hp2, hkw.mono fun _ _ h => h.elim⟩, hok.srt, by rw [hlq]; rfl, c4, rfl⟩
    · have := spots_len L a
      rw [hlq] at this
      show l.length < fuel
      omega
  · have c4' : 0 < (spots L b).length := List.length_pos_iff.2 c4
    have hA : moveA L a b = (7, L) := by unfold moveA; rw [if_neg (by omega), if_neg c3, if_pos c4]
    simp -implicitDefEqProofs [hlu2, c4', hA]
    exact ⟨hp2, hkw.mono fun _ _ h => h.elim⟩

structure Docs (K : Kont) : Prop where
  d : Docs0 K
  move : ∀ {w : World} {x : Nat} {L : List On} {n : Nat}, DocAt w x L → Ok L n → n ≤ 800000 → ∀ a b, (K.enter 29 #[pt x, n64 a, n64 b] w).all fun z => z.1 = n64 (moveA L a b).1 ∧ DTo w z.2 x (moveA L a b).2
  frames : ∀ {w : World} {x : Nat} {L : List On}, DocAt w x L → L.length ≤ 800000 → (K.enter 19 #[pt x] w).all fun z => Out (EInt 3) w z.2 z.1 (frames L)
  same : ∀ {w : World} {u v : Value} {l m : List Sp}, RowE ESp w u l → RowE ESp w v m → l.length ≤ 1000000 → (K.enter 17 #[u, v] w).all fun z => z.1 = .bool (decide (l = m)) ∧ z.2 = w
  nums : ∀ {w : World} {u v : Value} {l m : List Int}, RowE (EInt 3) w u l → RowE (EInt 3) w v m → l.length ≤ 1000000 → (K.enter 18 #[u, v] w).all fun z => z.1 = .bool (decide (l = m)) ∧ z.2 = w

theorem lessM (m : Nat) : Less (KM (m + 1)) := ⟨fun w a b => enter_okH (m := m) low35 (m0 (by decide) (by decide) (by decide) (by decide)) (run35 a b)⟩
theorem docs0M (m : Nat) (hm : 2000000 ≤ m) : Docs0 (KM (m + 2)) where
  spots := fun hp hn f => enter_okH (m := m + 1) low16 (m0 (by decide) (by decide) (by decide) (by decide)) (run16 hp hn (by omega) f)
  add := fun hp hn f s => enter_okH (m := m + 1) low27 (m0 (by decide) (by decide) (by decide) (by decide)) (run27 (lessM m) hp hn (by omega) f s)
  del := fun hp hn f s => enter_okH (m := m + 1) low28 (m0 (by decide) (by decide) (by decide) (by decide)) (run28 hp hn (by omega) f s)
theorem docsM (m : Nat) (hm : 2000000 ≤ m) : Docs (KM (m + 3)) where
  d := docs0M (m + 1) (by omega)
  move := fun hp hok hn a b => enter_okH (m := m + 2) low29 (m0 (by decide) (by decide) (by decide) (by decide)) (run29 (docs0M m hm) hp hok hn (by omega) a b)
  frames := fun hp hn => enter_okH (m := m + 2) low19 (m0 (by decide) (by decide) (by decide) (by decide)) (run19 hp hn (by omega))
  same := fun hu hv hl => enter_okH (m := m + 2) low17 (m0 (by decide) (by decide) (by decide) (by decide)) (run17 hu hv hl (by omega))
  nums := fun hu hv hl => enter_okH (m := m + 2) low18 (m0 (by decide) (by decide) (by decide) (by decide)) (run18 hu hv hl (by omega))
end Go.Proofs.Ytcfhhfdkecbphaa
