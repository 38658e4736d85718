/-
  Processors: the program's Look, Put, Drop, Lines, Behind.
-/
import Derived.Test.YtplcocifndpplaaCe
namespace Go.Proofs.Ytplcocifndpplaa
open Go Go.Ideal

theorem run30 {K : Kont} {fuel : Nat} (hC : Catch K) {w : World} {c : Nat} {a : Ad} {s : CS} {B : Nat} (hp : CpuAt w c a s) (hs : s.ok B) (hB : B ≤ 1000) (n sp p : Int) :
    wpGFn Try.prog K fuel 30 g30 #[ptr c, i64 n, i64 sp, i64 p] w fun v w' => (isN s n → v = lookV (lookL ((catchA s n.toNat sp).L n.toNat) sp p) ∧ CpuAt w' c a (catchA s n.toNat sp)) ∧ (¬ isN s n → v = lookV none ∧ CpuAt w' c a s) ∧ MvC w w' s a := by
  rw [gfn_start]
  have kz : Keeps w (World.push w (.cells zeroL.cells 31)) (fun _ => False) := Keeps.push _ _ _
  obtain ⟨hp1, hf1⟩ := hp.keep kz (fun _ _ h => h)
  have m1 : MvC w (World.push w (.cells zeroL.cells 31)) s a := MoveC.new hp kz
  have c0 : cellsOf? (World.push w (.cells zeroL.cells 31)) w.heap.size = some (zeroL.cells, 31, (0, 0)) := by simp
  have nf : ∀ i, i < s.N → ¬ foot (World.push w (.cells zeroL.cells 31)) (a.pb i) w.heap.size := fun i hi hf => by
    have := (hp.buf i hi).foot_lt ((hf1 i hi _).1 hf); omega
  have hz : (#[i64 0, i64 0, i64 0, i64 0, .bool false] : Array Value) = zeroL.cells := rfl
  have hlt1 : w.heap.size < (World.push w (.cells zeroL.cells 31)).heap.size := by simp
  unfold g30
  rw [hz]
  simp -implicitDefEqProofs
  generalize World.push w (.cells zeroL.cells 31) = w1 at *
  refine valA_of (hC.t.find hp1 n) (fun u w2 hq => ?_)
  obtain ⟨hu, hw⟩ := hq
  simp only at hu hw
  subst hu hw
  by_cases hn : isN s n
  · have hi := hn.lt
    simp -implicitDefEqProofs [findV, hn]
    refine valA_of (hC.go hp1 hs hB hi sp) (fun u w3 hq => ?_)
    obtain ⟨hp3, ho3⟩ := hq
    simp only at hp3 ho3
    obtain ⟨ms, hms, _⟩ := hp.seen _ hi
    have nps : ¬ w.heap.size = a.ps n.toNat := fun e => by have := hms.lt; omega
    have c03 := ho3.1.cells c0 (fun h => h.elim (nf _ hi) nps)
    have hcpu3 := hp3.cpu _ hi
    have hs3 := hs.catchA hi sp
    have m3 : MvC w w3 s a := m1.trans (One.mvs hp1 hi ho3)
    simp -implicitDefEqProofs [hcpu3]
    refine valA_of (hC.t.a.look (hp3.buf _ hi) (hs3.right hi) (by have := hs3.ll hi; omega) sp p) (fun u w4 hq => ?_)
    obtain ⟨hu, hk4⟩ := hq
    simp only at hu hk4
    obtain ⟨hp4, hf4⟩ := hp3.keep hk4 (fun _ _ h => h)
    have m34 := MoveC.new (T := TW) (M := True) hp3 hk4
    have m4 : MvC w w4 s a := m3.trans m34
    have c04 := hk4.cells c03 (fun h => h)
    have nf4 : ∀ i, i < (catchA s n.toNat sp).N → ¬ foot w4 (a.pb i) w.heap.size := fun i hi hf => by
      have h5 := (One.mvs hp1 hn.lt ho3).2 i hi _ ((hf4 i hi _).1 hf)
      rcases h5 with h5 | h5
      · exact nf i hi h5
      · omega
    subst hu
    simp -implicitDefEqProofs [lookV, Line.val, c04, cells_lt c04]
    obtain ⟨hp5, hf5⟩ := hp4.box (o := .cells ((lookL ((catchA s n.toNat sp).L n.toNat) sp p).getD zeroL).cells 31) c04 (by simp [TC]) nf4
    exact ⟨hp5, m4.late (Keeps.set _ _ _ (F := fun j => j = w.heap.size) fun _ => rfl) (fun b hb => by omega) fun i hi b hb => (hf5 i hi b).1 hb⟩
  · simp -implicitDefEqProofs [findV, hn, c0, cells_lt c0, fillS, Instr.fill, lookV, Line.val]
    obtain ⟨hp5, hf5⟩ := hp1.box (o := .cells zeroL.cells 31) c0 (by simp [TC]) nf
    exact ⟨hp5, m1.late (Keeps.set _ _ _ (F := fun j => j = w.heap.size) fun _ => rfl) (fun b hb => by omega) fun i hi b hb => (hf5 i hi b).1 hb⟩

def putE (s : CS) (n : Int) (c : Line) : Int := if isN s n then (if lineRight c = true then 0 else 2) else 3

theorem run29 {K : Kont} {fuel : Nat} (hC : Catch K) {w : World} {c : Nat} {a : Ad} {s : CS} {B : Nat} (hp : CpuAt w c a s) (hs : s.ok B) (hB : B ≤ 1000) (n : Int) (x : Line) :
    wpGFn Try.prog K fuel 29 g29 #[ptr c, i64 n, .agg x.cells] w fun v w' => v = i64 (putE s n x) ∧ CpuAt w' c a (if isN s n then putA s n.toNat x else s) ∧ MvC w w' s a := by
  rw [gfn_start]
  have kz : Keeps w (World.push w (.cells x.cells 31)) (fun _ => False) := Keeps.push _ _ _
  obtain ⟨hp1, hf1⟩ := hp.keep kz (fun _ _ h => h)
  have m1 : MvC w (World.push w (.cells x.cells 31)) s a := MoveC.new hp kz
  have c0 : cellsOf? (World.push w (.cells x.cells 31)) w.heap.size = some (x.cells, 31, (0, 0)) := by simp
  have nf : ∀ i, i < s.N → ¬ foot (World.push w (.cells x.cells 31)) (a.pb i) w.heap.size := fun i hi hf => by
    have := (hp.buf i hi).foot_lt ((hf1 i hi _).1 hf); omega
  have hlt1 : w.heap.size < (World.push w (.cells x.cells 31)).heap.size := by simp
  unfold g29
  simp -implicitDefEqProofs
  generalize World.push w (.cells x.cells 31) = w1 at *
  refine valA_of (hC.t.find hp1 n) (fun u w2 hq => ?_)
  obtain ⟨hu, hw⟩ := hq
  simp only at hu hw
  subst hu hw
  by_cases hn : isN s n
  · have hi := hn.lt
    simp -implicitDefEqProofs [findV, hn, c0]
    refine valA_of (hC.go hp1 hs hB hi x.s) (fun u w3 hq => ?_)
    obtain ⟨hp3, ho3⟩ := hq
    simp only at hp3 ho3
    obtain ⟨ms, hms, _⟩ := hp.seen _ hi
    have nps : ¬ w.heap.size = a.ps n.toNat := fun e => by have := hms.lt; omega
    have c03 := ho3.1.cells c0 (fun h => h.elim (nf _ hi) nps)
    have hcpu3 := hp3.cpu _ hi
    have hs3 := hs.catchA hi x.s
    have m3 : MvC w w3 s a := m1.trans (One.mvs hp1 hi ho3)
    simp -implicitDefEqProofs [hcpu3, c03]
    refine valA_of (hC.t.a.put (hp3.buf _ hi) (hs3.right hi) (by have := hs3.ll hi; omega) hs.sz.1 (hs3.good _ hi).len x) (fun u w4 hq => ?_)
    simp only at hq
    rcases hq with ⟨hr, hu, hlay⟩ | ⟨hr, hu, hlay⟩
    · subst hu
      obtain ⟨hp4, ho4⟩ := hp3.lay hi hlay
      have m34 := One.mv hp3 hi ho4
      rw [setLn_self] at hp4
      simp -implicitDefEqProofs [putE, putA, hn, hr]
      exact ⟨hp4, m3.trans m34⟩
    · subst hu
      obtain ⟨hp4, ho4⟩ := hp3.lay hi hlay
      have m34 := One.mv hp3 hi ho4
      simp -implicitDefEqProofs [putE, putA, hn, hr]
      exact ⟨hp4, m3.trans m34⟩
  · simp -implicitDefEqProofs [findV, hn, putE]
    exact ⟨hp1, m1⟩

def dropE (s : CS) (n i : Int) : Int := if isN s n then (if 0 ≤ i ∧ i < (s.L n.toNat).length then 0 else 3) else 3
theorem run34 {K : Kont} {fuel : Nat} (hT : Told K) {w : World} {c : Nat} {a : Ad} {s : CS} {B : Nat} (hp : CpuAt w c a s) (hs : s.ok B) (n i : Int) (hin : In64 i) :
    wpGFn Try.prog K fuel 34 g34 #[ptr c, i64 n, i64 i] w fun v w' => v = i64 (dropE s n i) ∧ CpuAt w' c a (if isN s n then dropA s n.toNat i else s) ∧ MvC w w' s a := by
  rw [gfn_start]
  unfold g34
  simp -implicitDefEqProofs
  refine valA_of (hT.find hp n) (fun u w2 hq => ?_)
  obtain ⟨hu, hw⟩ := hq
  simp only at hu hw
  subst hu hw
  by_cases hn : isN s n
  · have hi := hn.lt
    simp -implicitDefEqProofs [findV, hn, hp.cpu _ hi]
    refine valA_of (hT.a.drop (hp.buf _ hi) (by have := hs.ll hi; omega) i hin) (fun u w4 hq => ?_)
    simp only at hq
    rcases hq with ⟨hr, hu, hlay⟩ | ⟨hr, hu, hlay⟩
    · subst hu
      obtain ⟨hp4, ho4⟩ := hp.lay hi hlay
      rw [setLn_self] at hp4
      have hr' : ¬ (0 ≤ i ∧ i < (s.L n.toNat).length) := by omega
      simp -implicitDefEqProofs [dropE, dropA, hn, hr']
      exact ⟨hp4, One.mv hp hi ho4⟩
    · subst hu
      obtain ⟨hp4, ho4⟩ := hp.lay hi hlay
      simp -implicitDefEqProofs [dropE, dropA, hn, hr]
      exact ⟨hp4, One.mv hp hi ho4⟩
  · simp -implicitDefEqProofs [findV, hn, dropE]
    exact ⟨hp, MoveC.refl _ _ _ _ _⟩

theorem run37 {K : Kont} {fuel : Nat} (hT : Told K) {w : World} {c : Nat} {a : Ad} {s : CS} {B : Nat} (hp : CpuAt w c a s) (hs : s.ok B) (n : Int) (hn : isN s n) :
    wpGFn Try.prog K fuel 37 g37 #[ptr c, i64 n] w fun v w' => Lns w' v (s.L n.toNat) ∧ Keeps w w' (fun _ => False) ∧ ∀ j, blockOf v = some j → w.heap.size ≤ j := by
  rw [gfn_start]
  have hi := hn.lt
  unfold g37
  simp -implicitDefEqProofs
  refine valA_of (hT.find hp n) (fun u w2 hq => ?_)
  obtain ⟨hu, hw⟩ := hq
  simp only at hu hw
  subst hu hw
  simp -implicitDefEqProofs [findV, hn, hp.cpu _ hi]
  refine valA_of (hT.a.lines (hp.buf _ hi) (by have := hs.ll hi; omega)) (fun u w4 hq => ?_)
  simp only at hq
  simp -implicitDefEqProofs
  exact hq

theorem run38 {K : Kont} {fuel : Nat} (hT : Told K) {w : World} {c : Nat} {a : Ad} {s : CS} {B : Nat} (hp : CpuAt w c a s) (hs : s.ok B) (hB : B ≤ 1000) (n sp : Int) (hn : isN s n) :
    wpGFn Try.prog K fuel 38 g38 #[ptr c, i64 n, i64 sp] w fun v w' => v = i64 (behindA s n.toNat sp) ∧ w' = w := by
  rw [gfn_start]
  have hi := hn.lt
  unfold g38
  simp -implicitDefEqProofs
  refine valA_of (hT.find hp n) (fun u w2 hq => ?_)
  obtain ⟨hu, hw⟩ := hq
  simp only at hu hw
  subst hu hw
  obtain ⟨ms, hms, hgs⟩ := hp.seen _ hi
  have lseen := lookD (z := i64 0) (v := i64 (s.seen n.toNat sp)) (i := sp) hms (hgs sp)
  have htl := hs.time_le sp
  have hle := hs.seen _ sp hi
  have w1 : IntKind.i64.wrap ((s.time sp : Int) - (s.seen n.toNat sp : Int)) = (s.time sp : Int) - (s.seen n.toNat sp : Int) := by rw [IntKind.wrap_i64]; omega
  simp -implicitDefEqProofs [findV, hn, hp.cpu _ hi, lseen]
  refine valA_of (hT.time hp sp) (fun u w4 hq => ?_)
  obtain ⟨hu, hw⟩ := hq
  simp only at hu hw
  subst hu hw
  simp -implicitDefEqProofs [hp.cpu _ hi, lseen, w1, behindA]
end Go.Proofs.Ytplcocifndpplaa
