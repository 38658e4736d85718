/-
  TLBOne: no two lines hold one page.
-/
import Derived.Test.YtplcocifndpplaaPt
namespace Go.Proofs.Ytplcocifndpplaa
open Go Go.Ideal

theorem apart_holds {c d : Line} (h : apartL c d) : lineHolds c d.s d.p = false ∧ lineHolds d c.s c.p = false := by
  have h1 := size_cases c.o
  have h2 := size_cases d.o
  unfold apartL at h
  constructor
  · rw [Bool.eq_false_iff]
    simp [lineHolds]
    omega
  · rw [Bool.eq_false_iff]
    simp [lineHolds]
    omega
theorem holds_self (c : Line) : lineHolds c c.s c.p = true := by
  have h1 := size_cases c.o
  simp [lineHolds]
  omega

theorem GoodL.at {size : Int} {ls : List Line} (h : GoodL size ls) {i k : Nat} (hk : k < i) (hi : i < ls.length) : apartL (ls[k]'(by omega)) ls[i] := (List.pairwise_iff_getElem.1 h.apart) k i (by omega) hi hk
theorem GoodL.look {size : Int} {ls : List Line} (h : GoodL size ls) {q : Nat} (hq : q < ls.length) : lookL ls ls[q].s ls[q].p = some ls[q] := by
  refine find_take hq (fun c hc => ?_) (holds_self _)
  obtain ⟨j, hj, rfl⟩ := List.getElem_of_mem hc
  rw [List.length_take] at hj
  rw [List.getElem_take]
  exact (apart_holds (h.at (by omega) hq)).1

theorem line_at {c : Array Value} {o q : Nat} {l : Line} (hcsz : o + q * 5 + 5 ≤ c.size) (hext : c.extract (o + q * 5) (o + q * 5 + 5) = l.cells) : c[o + q * 5]? = some (i64 l.s) ∧ c[o + q * 5 + 1]? = some (i64 l.p) := by
  constructor
  · have := congrArg (fun a => a[0]?) hext
    simp only [Array.getElem?_extract] at this
    rw [if_pos (by omega)] at this
    exact this
  · have := congrArg (fun a => a[1]?) hext
    simp only [Array.getElem?_extract] at this
    rw [if_pos (by omega)] at this
    exact this

theorem run4 {K : Kont} {fuel : Nat} (hT : Top K) (hf : 2000 ≤ fuel) {w : World} {size : Int} (hs : 0 ≤ size ∧ size < 256) {v : Value} {xs : List ActR} (hv : ActsAt w v xs) :
    wpGFn Try.prog K fuel 4 g4 #[.int .u8 size, v] w fun r _ => r = .bool true := by
  rw [gfn_start]
  obtain ⟨z1, z2, z3⟩ := size_facts hs
  simp -implicitDefEqProofs [g4, z1, z2]
  refine valA_of (hT.made hv) (fun v1 w1 hq => ?_)
  obtain ⟨b, x, ls, rfl, h2, hg, hl, hk⟩ := Made.good hq z3
  simp -implicitDefEqProofs [hT.api.has.awake15, nil25]
  refine valA_of (hT.api.lines h2.hb (by omega)) (fun va w2 hq2 => ?_)
  obtain ⟨hva, k2, _⟩ := hq2
  simp only at hva k2
  obtain ⟨h3, _⟩ := h2.new k2
  simp -implicitDefEqProofs
  refine loop_go (fun i ρ w' => ∃ (q : Nat), i = ls.length - q ∧ q ≤ ls.length ∧ Keeps w2 w' (fun _ => False) ∧ ρ 0 = .int .u8 size ∧ ρ 5 = ptr b ∧ ρ 8 = va ∧ ρ 9 = i64 q) ?_ (i := ls.length) ?_ (by simp; omega)
  · rintro i ρ w' ⟨q, rfl, hq, hk', e0, e5, e8, e9⟩
    have hva' := hva.keep hk' (fun _ _ h => h)
    obtain ⟨h3', _⟩ := h3.new hk'
    have w1 : IntKind.i64.wrap ((q : Int) + 1) = (q : Int) + 1 := by rw [IntKind.wrap_i64]; omega
    by_cases hql : q < ls.length
    · obtain ⟨lb, o, cap, c, hve, hc, hcsz, hext⟩ := hva'.line hql
      obtain ⟨d0, d1⟩ := line_at hcsz hext
      simp -implicitDefEqProofs [e8, e9, hva.len, hql]
      refine loop_go (fun i ρ w'' => ∃ (k : Nat), i = q - k ∧ k ≤ q ∧ w'' = w' ∧ ρ 0 = .int .u8 size ∧ ρ 5 = ptr b ∧ ρ 8 = va ∧ ρ 9 = i64 q ∧ ρ 10 = i64 k) ?_ (i := q) ?_ (by simp; omega)
      · rintro i ρ w'' ⟨k, rfl, hkq, rfl, e0, e5, e8, e9, e10⟩
        have w2 : IntKind.i64.wrap ((k : Int) + 1) = (k : Int) + 1 := by rw [IntKind.wrap_i64]; omega
        by_cases hkl : k < q
        · have hkl' : k < ls.length := by omega
          obtain ⟨lb2, o2, cap2, c2, hve2, hc2, hcsz2, hext2⟩ := hva'.line hkl'
          obtain ⟨d02, d12⟩ := line_at hcsz2 hext2
          obtain ⟨q1, q2⟩ := apart_holds (hg.at hkl hql)
          have hh1 := fun w => hT.api.has.holds ls[q] ls[k].s ls[k].p w (hg.right _ (List.getElem_mem hql))
          have hh2 := fun w => hT.api.has.holds ls[k] ls[q].s ls[q].p w (hg.right _ (List.getElem_mem hkl'))
          simp only [q1, Line.val] at hh2
          simp only [q2, Line.val] at hh1
          have hve3 : lb2 = lb ∧ o2 = o := by rw [hve] at hve2; simp at hve2; exact ⟨hve2.1.1.symm, hve2.1.2.symm⟩
          obtain ⟨rfl, rfl⟩ := hve3
          have hcc : c2 = c := by rw [hc] at hc2; simpa using hc2.symm
          subst hcc
          simp -implicitDefEqProofs [e0, e5, e8, e9, e10, hkl, hve, hc, hcsz, hcsz2, hext, hext2, hql, hkl', d0, d1, d02, d12, hh1, hh2, w2]
          exact ⟨q - (k + 1), by omega, k + 1, rfl, hkl, by omega⟩
        · have hke : k = q := by omega
          subst hke
          simp -implicitDefEqProofs [e5, e8, e9, e10, hve, hc, hql, d0, d1]
          refine valA_of (hT.api.look h3'.hb hg.right (by omega) ls[k].s ls[k].p) (fun v4 w4 hq4 => ?_)
          obtain ⟨hv4, k4⟩ := hq4
          simp only at hv4 k4
          rw [hg.look hql] at hv4
          subst hv4
          have hc4 := k4.cells hc (fun h => h)
          have n4 : ¬ lb = w4.heap.size := Nat.ne_of_lt (cells_lt hc4)
          have kz4 : Keeps w4 (World.set (World.push w4 (.cells zeroL.cells 31)) w4.heap.size (.cells ls[k].cells 31)) (fun _ => False) :=
            (Keeps.push w4 (.cells zeroL.cells 31) (fun _ => False)).trans (Keeps.set _ w4.heap.size _ (F := fun j => j = w4.heap.size) (fun _ => rfl)) (fun _ _ h => h) (fun j hj h => by omega)
          have h21 := fun w => hT.api.has.right21 ls[k] w
          simp only [hg.right _ (List.getElem_mem hql), Line.val] at h21
          simp -implicitDefEqProofs [e0, e5, e8, e9, hve, hc4, hql, d0, d1, n4, lookV, Line.val, line_ne, hcsz, hext, h21, w1]
          exact ⟨ls.length - (k + 1), by omega, k + 1, rfl, hql, (hk'.trans k4 (fun _ _ h => h) (fun _ _ h => h)).trans kz4 (fun _ _ h => h) (fun _ _ h => h), by omega⟩
      · exact ⟨0, rfl, Nat.zero_le _, rfl, by simp [e0], by simp [e5], by simp [e8], by simp [e9], by simp⟩
    · have hqe : q = ls.length := by omega
      subst hqe
      have hlen := hg.len
      simp -implicitDefEqProofs [e0, e8, e9, hva.len, z1, z2, hlen]
  · exact ⟨0, rfl, Nat.zero_le _, Keeps.refl _ _, by simp, by simp, by simp, by simp⟩
end Go.Proofs.Ytplcocifndpplaa
