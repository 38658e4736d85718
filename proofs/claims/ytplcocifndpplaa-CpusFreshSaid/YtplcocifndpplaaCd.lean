/-
  Processors: the program's find, time, catch.
-/
import Derived.Test.YtplcocifndpplaaCc
namespace Go.Proofs.Ytplcocifndpplaa
open Go Go.Ideal

theorem lookD {w : World} {r : Nat} {m : MapL} {z v : Value} {i : Int} (h : MapAt w r m) (hg : (getM m i).getD z = v) : lookupS .i64 z (.map (some r)) (.int .i64 i) false w = .ret (v, w) := by
  rw [lookup_map h.is]
  cases hq : getM m i with
  | none => rw [hq] at hg; subst hg; rfl
  | some u => rw [hq] at hg; subst hg; rfl
theorem setLn_twice (s : CS) (i : Nat) (x y : List Line) : setLn (setLn s i x) i y = setLn s i y := by
  refine CS.ext rfl rfl rfl (fun j => ?_) fun _ _ => rfl
  simp only [setLn_L]
  split <;> rfl
theorem setLn_self (s : CS) (i : Nat) : setLn s i (s.L i) = s := by
  refine CS.ext rfl rfl rfl (fun j => ?_) fun _ _ => rfl
  simp only [setLn_L]
  split
  · rename_i e; rw [e]
  · rfl

def findV (s : CS) (a : Ad) (n : Int) : Value := if isN s n then .tuple #[ptr (a.pc n.toNat), i64 0] else .tuple #[.pointer none, i64 3]

theorem run50 {K : Kont} {fuel : Nat} {w : World} {c : Nat} {a : Ad} {s : CS} (hp : CpuAt w c a s) (n : Int) : wpGFn Try.prog K fuel 50 g50 #[ptr c, i64 n] w fun v w' => v = findV s a n ∧ w' = w := by
  rw [gfn_start]
  by_cases h0 : 0 ≤ n
  · obtain ⟨q, rfl⟩ := Int.eq_ofNat_of_zero_le h0
    have hn : ¬ (q : Int) < 0 := by omega
    by_cases h1 : q < s.N
    · obtain ⟨b, o, cap, cs, hv, hc, hsz, hat⟩ := hp.row.ptr (i := q) (by simpa using h1)
      have hv2 : a.v = .slice (some ⟨b, o, none⟩) s.N cap := by simpa using hv
      simp -implicitDefEqProofs [g50, nil57, hp.cell, hv2, hc, hat, h1, findV, isN]
    · have hl := fun w' => hp.row.lenS (w' := w')
      simp only [List.length_map, List.length_range] at hl
      simp -implicitDefEqProofs [g50, nil57, hp.cell, hl, h1, findV, isN]
  · have hn : n < 0 := by omega
    simp -implicitDefEqProofs [g50, nil57, hn, findV, isN, h0]

theorem run52 {K : Kont} {fuel : Nat} {w : World} {c : Nat} {a : Ad} {s : CS} (hp : CpuAt w c a s) (sp : Int) : wpGFn Try.prog K fuel 52 g52 #[ptr c, i64 sp] w fun v w' => v = i64 (s.time sp) ∧ w' = w := by
  rw [gfn_start]
  obtain ⟨m, hm, hget⟩ := hp.sm
  by_cases h : 0 < s.time sp
  · have hl := lookD (z := .pointer none) (v := ptr (a.px sp)) (i := sp) hm (by rw [hget, if_pos h]; rfl)
    simp -implicitDefEqProofs [g52, hp.cell, hl, nilN102, (hp.spc sp h).1]
  · have hl := lookD (z := .pointer none) (v := .pointer none) (i := sp) hm (by rw [hget, if_neg h]; rfl)
    have h0 : s.time sp = 0 := by omega
    simp -implicitDefEqProofs [g52, hp.cell, hl, nilN102, h0]

theorem One.keepT {w w' : World} {c : Nat} {a : Ad} {s : CS} {i : Nat} {F : Nat → Prop} (h : CpuAt w c a s) (hi : i < s.N) (ho : One w w' a i F) {b : Nat} {cs : Array Value} {t : TypeId} {fz : Nat × Nat} (hc : cellsOf? w b = some (cs, t, fz)) (h1 : t ≠ 89) (h2 : t ≠ 31) (hF : ¬ F b) : cellsOf? w' b = some (cs, t, fz) :=
  ho.1.cells hc fun hb => hb.elim (fun hf => by
    obtain ⟨c', t', g1, g2⟩ := (h.buf i hi).tag hf
    rw [hc] at g1
    simp only [Option.some.injEq, Prod.mk.injEq] at g1
    obtain ⟨_, rfl, _⟩ := g1
    exact g2.elim h1 h2) hF
theorem One.keepR {w w' : World} {c : Nat} {a : Ad} {s : CS} {i : Nat} {α : Type} {E : En α} {v : Value} {xs : List α} (h : CpuAt w c a s) (hi : i < s.N) (ho : One w w' a i (fun _ => False)) (hr : RowE E w v xs) (h1 : E.te ≠ 89) (h2 : E.te ≠ 31) : RowE E w' v xs := by
  refine hr.keep ho.1 fun b hb hx => ?_
  obtain ⟨cs, hc⟩ := hr.tag hb
  refine hx.elim (fun hf => ?_) (fun h => h)
  obtain ⟨c', t', g1, g2⟩ := (h.buf i hi).tag hf
  rw [hc] at g1
  simp only [Option.some.injEq, Prod.mk.injEq] at g1
  obtain ⟨_, g1, _⟩ := g1
  rw [← g1] at g2
  exact g2.elim h1 h2

theorem run66 {K : Kont} {fuel : Nat} (hA : Api K) (hf : 2000 ≤ fuel) {w : World} {c : Nat} {a : Ad} {s : CS} {B : Nat} (hp : CpuAt w c a s) (hs : s.ok B) {i : Nat} (hi : i < s.N) {v : Value} {fs : List Fl} (hv : RowE EF w v fs) (hfs : ∀ f ∈ fs, In64 f.p ∧ In64 f.n) (hfl : fs.length ≤ 100)
    {bp bn : Nat} {sp : Int} (hbp : cellsOf? w bp = some (#[ptr (a.pc i)], 95, (0, 0))) (hbn : cellsOf? w bn = some (#[i64 sp], 3, (0, 0))) :
    wpGFn Try.prog K fuel 66 g66 #[v, ptr bp, ptr bn] w fun _ w' => CpuAt w' c a (setLn s i (foldF (s.L i) sp fs)) ∧ One w w' a i (fun _ => False) := by
  rw [gfn_start]
  simp -implicitDefEqProofs [g66, hv.lenS]
  refine loop_go (fun k ρ w' => ∃ q : Nat, k = fs.length - q ∧ q ≤ fs.length ∧ ρ 1 = ptr bp ∧ ρ 2 = ptr bn ∧ ρ 6 = v ∧ ρ 7 = i64 fs.length ∧ ρ 8 = i64 q ∧ CpuAt w' c a (setLn s i (foldF (s.L i) sp (fs.take q))) ∧ One w w' a i (fun _ => False)) ?_ (i := fs.length) ?_ (by show fs.length < fuel; omega)
  · rintro k ρ w' ⟨q, rfl, hq, e1, e2, e6, e7, e8, hp', ho⟩
    have w1 : IntKind.i64.wrap ((q : Int) + 1) = (q : Int) + 1 := by rw [IntKind.wrap_i64]; omega
    by_cases hql : q < fs.length
    · have hv' := One.keepR hp hi ho hv (by decide) (by decide)
      have hbp' := One.keepT hp hi ho hbp (by decide) (by decide) (fun h => h)
      have hbn' := One.keepT hp hi ho hbn (by decide) (by decide) (fun h => h)
      have hcpu := hp'.cpu i hi
      obtain ⟨rb, ro, rcap, rc, hve, hrc, hrsz, hext, _⟩ := hv'.at hql
      simp only [EF] at hrc hrsz hext
      have kb : Keeps w' (World.set (World.push w' (.cells #[i64 0, i64 0] 107)) w'.heap.size (.cells #[i64 fs[q].p, i64 fs[q].n] 107)) (fun _ => False) :=
        (Keeps.push w' _ (fun _ => False)).trans (Keeps.set _ w'.heap.size _ (F := fun j => j = w'.heap.size) (fun _ => rfl)) (fun _ _ h => h) (fun j hj h => by omega)
      have n1 : ¬ bp = w'.heap.size := Nat.ne_of_lt (cells_lt hbp')
      have n2 : ¬ bn = w'.heap.size := Nat.ne_of_lt (cells_lt hbn')
      have n3 : ¬ a.pc i = w'.heap.size := Nat.ne_of_lt (cells_lt hcpu)
      obtain ⟨hp2, hf2⟩ := hp'.keep kb (fun _ _ h => h)
      have ho2 : One w' _ a i (fun _ => False) := One.new hp' hi kb
      have hok : (setLn s i (foldF (s.L i) sp (fs.take q))).ok B := hs.setLn ((hs.good i hi).sub (foldF_sub _ _ _))
      have hin := hfs fs[q] (List.getElem_mem hql)
      have hql' : (q : Int) < fs.length := by omega
      simp -implicitDefEqProofs [e1, e2, e6, e7, e8, hql', hve, hrc, hrsz, hext, hbp', hbn', hcpu, n1, n2, n3, hql]
      refine valA_of (hA.flush.go (hp2.buf i hi) (hok.right hi) (by have := hok.ll hi; omega) sp fs[q].p fs[q].n hin.1 hin.2) (fun u w3 hq3 => ?_)
      obtain ⟨hu, hlay⟩ := hq3
      simp only at hu hlay
      obtain ⟨hp3, ho3⟩ := hp2.lay hi hlay
      rw [setLn_twice, setLn_at, ← foldF_snoc, show fs.take q ++ [fs[q]] = fs.take (q + 1) by rw [List.take_succ_eq_append_getElem hql]] at hp3
      simp -implicitDefEqProofs [e1, e2, e6, e7, e8, w1]
      exact ⟨fs.length - (q + 1), by omega, q + 1, rfl, hql, hve, by omega, hp3, (ho.trans ho2).trans ho3⟩
    · have : q = fs.length := by omega
      subst this
      rw [List.take_length] at hp'
      simp -implicitDefEqProofs [e7, e8]
      exact ⟨hp', ho⟩
  · refine ⟨0, rfl, Nat.zero_le _, by simp, by simp, by simp, by simp, by simp, ?_, One.refl _ _ _ _⟩
    rw [List.take_zero]
    show CpuAt w c a (setLn s i (s.L i))
    rw [setLn_self]; exact hp

structure Told (K : Kont) : Prop where
  a : Api K
  find : ∀ {w : World} {c : Nat} {x : Ad} {s : CS}, CpuAt w c x s → ∀ n, (K.enter 50 #[ptr c, i64 n] w).all fun r => r.1 = findV s x n ∧ r.2 = w
  time : ∀ {w : World} {c : Nat} {x : Ad} {s : CS}, CpuAt w c x s → ∀ sp, (K.enter 52 #[ptr c, i64 sp] w).all fun r => r.1 = i64 (s.time sp) ∧ r.2 = w
  told : ∀ {w : World} {c : Nat} {x : Ad} {s : CS} {B : Nat}, CpuAt w c x s → s.ok B → ∀ {i : Nat}, i < s.N → ∀ {v : Value} {fs : List Fl}, RowE EF w v fs → (∀ f ∈ fs, In64 f.p ∧ In64 f.n) → fs.length ≤ 100 →
    ∀ {bp bn : Nat} {sp : Int}, cellsOf? w bp = some (#[ptr (x.pc i)], 95, (0, 0)) → cellsOf? w bn = some (#[i64 sp], 3, (0, 0)) →
    (K.enter 66 #[v, ptr bp, ptr bn] w).all fun r => CpuAt r.2 c x (setLn s i (foldF (s.L i) sp fs)) ∧ One w r.2 x i (fun _ => False)
theorem told (m : Nat) (hm : 2000 ≤ m) : Told (runA Try.prog sp5 (m + 6)) where
  a := api (m + 1) (by omega)
  find := fun hp n => enter_ok (m := m + 5) low50 rfl (run50 hp n)
  time := fun hp sp => enter_ok (m := m + 5) low52 rfl (run52 hp sp)
  told := fun hp hs _ hi _ _ hv hfs hfl _ _ _ hbp hbn => enter_ok (m := m + 5) low66 rfl (run66 (api m hm) (by omega) hp hs hi hv hfs hfl hbp hbn)
end Go.Proofs.Ytplcocifndpplaa
