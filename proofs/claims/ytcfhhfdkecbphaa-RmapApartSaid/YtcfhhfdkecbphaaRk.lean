/-
  Rmap: calls that come; RmapSums.
-/
import Derived.Test.YtcfhhfdkecbphaaRj
namespace Go.Proofs.Ytcfhhfdkecbphaa
open Go Go.Ideal

structure ActR where
  k : Int
  f : Int
  t : Int
  s : Int
  p : Int
abbrev ActR.cells (a : ActR) : Array Value := #[.int .i64 a.k, .int .i64 a.f, .int .i64 a.t, .int .i64 a.s, .int .i64 a.p]

/-- A row that nobody writes. -/
def Froz (w : World) (v : Value) : Prop := ∀ b o vl vc c e fz, v = .slice (some ⟨b, o, none⟩) vl vc → cellsOf? w b = some (c, e, fz) → c.size ≠ 0 → fz ≠ (0, 0)
def ActsR (w : World) (v : Value) (xs : List ActR) : Prop := ∃ vb vc, v = .slice vb xs.length vc ∧ ∀ (i : Nat) (h : i < xs.length), ∃ b o c e fz, vb = some ⟨b, o, none⟩ ∧ cellsOf? w b = some (c, e, fz) ∧ fz ≠ (0, 0) ∧ o + i * 5 + 5 ≤ c.size ∧ c.extract (o + i * 5) (o + i * 5 + 5) = xs[i].cells
theorem ActsR.keep {w w' : World} {v : Value} {xs : List ActR} (h : ActsR w v xs) (hk : KeepT w w') : ActsR w' v xs := by
  obtain ⟨vb, vc, hv, h⟩ := h
  refine ⟨vb, vc, hv, fun i hi => ?_⟩
  obtain ⟨b, o, c, e, fz, h1, h2, h3, h4⟩ := h i hi
  exact ⟨b, o, c, e, fz, h1, hk.2 _ _ _ _ h2 (fun h => absurd h h3), h3, h4⟩
theorem ActsR.len {w w' : World} {v : Value} {xs : List ActR} (h : ActsR w v xs) : lenS v w' = .ret (.int .i64 (xs.length : Int), w') := by
  obtain ⟨vb, vc, rfl, _⟩ := h; rfl
theorem ActsR.at {w : World} {v : Value} {xs : List ActR} (h : ActsR w v xs) {i : Nat} (hi : i < xs.length) : ∃ b o cap c e fz, v = .slice (some ⟨b, o, none⟩) xs.length cap ∧ cellsOf? w b = some (c, e, fz) ∧ o + i * 5 + 5 ≤ c.size ∧ c.extract (o + i * 5) (o + i * 5 + 5) = xs[i].cells ∧
    c[o + i * 5]? = some (.int .i64 xs[i].k) ∧ c[o + i * 5 + 1]? = some (.int .i64 xs[i].f) ∧ c[o + i * 5 + 2]? = some (.int .i64 xs[i].t) ∧ c.extract (o + i * 5 + 3) (o + i * 5 + 5) = #[.int .i64 xs[i].s, .int .i64 xs[i].p] := by
  obtain ⟨vb, vc, rfl, h2⟩ := h
  obtain ⟨b, o, c, e, fz, rfl, g2, _, g3, g4⟩ := h2 i hi
  have hat : ∀ j, j < 5 → c[o + i * 5 + j]? = xs[i].cells[j]? := fun j hj => by
    rw [← g4, Array.getElem?_extract, if_pos (by omega)]
  refine ⟨b, o, vc, c, e, fz, rfl, g2, g3, g4, hat 0 (by omega), hat 1 (by omega), hat 2 (by omega), ?_⟩
  apply Array.ext_getElem?
  intro j
  rw [Array.getElem?_extract]
  by_cases h : j < 2
  · rw [if_pos (by omega), Nat.add_assoc (o + i * 5) 3 j, hat (3 + j) (by omega)]
    match j, h with
    | 0, _ => rfl
    | 1, _ => rfl
  · rw [if_neg (by omega), Array.getElem?_eq_none (by simp; omega)]

/-- A call, its answer and what it leaves. -/
def ansR (L : List On) (a : ActR) : Int × List On := if a.k = 0 ∨ a.k = 1 ∨ a.k = 2 then addA L a.f (a.s, a.p) else if a.k = 3 then delA L a.f (a.s, a.p) else moveA L a.f a.t
def stepR (L : List On) (a : ActR) : List On := (ansR L a).2
theorem Ok.step {L : List On} {n : Nat} (h : Ok L n) (a : ActR) : Ok (stepR L a) (n + 1) := by
  unfold stepR ansR
  split
  · exact h.add _ _
  · split
    · exact h.del _ _
    · exact h.move _ _

theorem add_len {L : List On} (f : Int) (s : Sp) : ((addA L f s).2.length : Int) = if (addA L f s).1 = 0 then (L.length : Int) + 1 else L.length := by
  unfold addA
  split
  · rfl
  · split
    · rfl
    · simp only [if_true, insO_len]; omega
theorem del_len {L : List On} (h : Srt L) (f : Int) (s : Sp) : ((delA L f s).2.length : Int) = if (delA L f s).1 = 0 then (L.length : Int) - 1 else L.length := by
  unfold delA
  split
  · rename_i hm
    have := delO_len h hm
    simp only [if_true]; omega
  · rfl
theorem move_len {L : List On} (h : Srt L) (x y : Int) : (moveA L x y).2.length = L.length := by
  unfold moveA
  split
  · rfl
  · split
    · rfl
    · rename_i h1
      split
      · rfl
      · rename_i h2
        exact (move_spots h h1 (Decidable.not_not.1 h2)).2.2.1

/-- Behind the calls: the frames' spots are counted. -/
def t3 : GC :=
 .seq (.ops [.grp none [⟨some 80, none, .move (.tmp 3), []⟩, ⟨some 81, none, .call 12 #[.tmp 80], []⟩, ⟨some 6, none, .move (.tmp 81), []⟩]]) 
 (.seq (.ops [.grp none [⟨some 7, none, .move (.const (.int .i64 0)), []⟩]]) 
 (.seq 
 (.seq (.ops [.grp none [⟨some 8, none, .move (.const (.int .i64 0)), []⟩]]) 
 (.block 3 
 (.loop 
 (.seq 
 (.seq (.ops [.grp none [⟨some 82, none, .move (.tmp 8), []⟩, ⟨some 83, none, .move (.tmp 6), []⟩, ⟨some 84, none, .len (.tmp 83), []⟩, ⟨some 85, none, .bin .lss 3 (.tmp 82) (.tmp 84), []⟩]]) 
 (.cond (.tmp 85) .skip (.exit 3))) 
 (.seq 
 (.block 4 
 (.seq (.ops [.grp none [⟨some 88, none, .move (.tmp 3), []⟩, ⟨some 89, none, .move (.tmp 6), []⟩, ⟨some 90, none, .move (.tmp 8), []⟩, ⟨some 91, none, .iaddr 1 (.tmp 89) (.tmp 90), []⟩, ⟨some 92, none, .load none (.tmp 91), []⟩, ⟨some 93, none, .call 13 #[.tmp 88, .tmp 92], []⟩, ⟨some 9, none, .move (.tmp 93), []⟩]]) 
 (.seq 
 (.seq (.ops [.grp none [⟨some 94, none, .move (.tmp 9), []⟩, ⟨some 95, none, .bin .lss 3 (.tmp 94) (.const (.int .i64 1)), []⟩, ⟨some 96, none, .move (.tmp 95), []⟩],
  .grp (some (some 96, false)) [⟨some 97, none, .move (.tmp 9), []⟩, ⟨some 98, none, .move (.tmp 3), []⟩, ⟨some 99, none, .move (.tmp 6), []⟩, ⟨some 100, none, .move (.tmp 8), []⟩, ⟨some 101, none, .iaddr 1 (.tmp 99) (.tmp 100), []⟩, ⟨some 102, none, .load none (.tmp 101), []⟩, ⟨some 103, none, .call 14 #[.tmp 98, .tmp 102], []⟩, ⟨some 104, none, .len (.tmp 103), []⟩, ⟨some 105, none, .bin .neq 3 (.tmp 97) (.tmp 104), []⟩],
  .grp none [⟨some 106, none, .pick (.tmp 96) (.const (.bool true)) (.tmp 105), []⟩, ⟨some 107, none, .move (.tmp 106), []⟩],
  .grp (some (some 107, false)) [⟨some 108, none, .move (.tmp 8), []⟩, ⟨some 109, none, .bin .gtr 3 (.tmp 108) (.const (.int .i64 0)), []⟩, ⟨some 110, none, .move (.tmp 109), []⟩],
  .grp (some (some 110, true)) [⟨some 111, none, .move (.tmp 6), []⟩, ⟨some 112, none, .move (.tmp 8), []⟩, ⟨some 113, none, .iaddr 1 (.tmp 111) (.tmp 112), []⟩, ⟨some 114, none, .load none (.tmp 113), []⟩, ⟨some 115, none, .move (.tmp 6), []⟩, ⟨some 116, none, .move (.tmp 8), []⟩, ⟨some 117, none, .bin .sub 3 (.tmp 116) (.const (.int .i64 1)), []⟩, ⟨some 118, none, .iaddr 1 (.tmp 115) (.tmp 117), []⟩, ⟨some 119, none, .load none (.tmp 118), []⟩, ⟨some 120, none, .bin .leq 3 (.tmp 114) (.tmp 119), []⟩],
  .grp (some (some 107, false)) [⟨some 121, none, .pick (.tmp 110) (.tmp 120) (.const (.bool false)), []⟩],
  .grp none [⟨some 122, none, .pick (.tmp 107) (.const (.bool true)) (.tmp 121), []⟩]]) 
 (.cond (.tmp 122) 
 (.seq (.ops [.grp none [⟨some 2, none, .move (.const (.bool false)), []⟩]]) .ret) .skip)) (.ops [.grp none [⟨some 123, none, .move (.tmp 7), []⟩, ⟨some 124, none, .move (.tmp 9), []⟩, ⟨some 125, none, .bin .add 3 (.tmp 123) (.tmp 124), []⟩, ⟨some 7, none, .move (.tmp 125), []⟩]])))) (.ops [.grp none [⟨some 86, none, .move (.tmp 8), []⟩, ⟨some 87, none, .bin .add 3 (.tmp 86) (.const (.int .i64 1)), []⟩, ⟨some 8, none, .move (.tmp 87), []⟩]])))))) 
 (.seq (.ops [.grp none [⟨some 126, none, .move (.tmp 7), []⟩, ⟨some 127, none, .move (.tmp 4), []⟩, ⟨some 128, none, .bin .eql 3 (.tmp 126) (.tmp 127), []⟩, ⟨some 2, none, .move (.tmp 128), []⟩]]) .ret)))

def g3c : GFn :=
 ⟨129, [⟨2, none⟩], .seq (.ops [.grp none [⟨some 2, none, .move (.const (.bool false)), []⟩]]) 
 (.seq (.ops [.grp none [⟨some 10, none, .call 7 #[], []⟩, ⟨some 3, none, .move (.tmp 10), []⟩]]) 
 (.seq 
 (.seq (.ops [.grp none [⟨some 11, none, .move (.tmp 3), []⟩, ⟨some 12, none, .bin .eql 23 (.tmp 11) (.const (.pointer none)), []⟩, ⟨some 13, none, .move (.tmp 12), []⟩],
  .grp (some (some 13, false)) [⟨some 14, none, .call 8 #[], []⟩, ⟨some 15, none, .un .not (.tmp 14), []⟩],
  .grp none [⟨some 16, none, .pick (.tmp 13) (.const (.bool true)) (.tmp 15), []⟩]]) 
 (.cond (.tmp 16) 
 (.seq (.ops [.grp none [⟨some 2, none, .move (.const (.bool false)), []⟩]]) .ret) .skip)) 
 (.seq (.ops [.grp none [⟨some 4, none, .move (.const (.int .i64 0)), []⟩]]) 
 (.seq 
 (.seq (.ops [.grp none [⟨some 5, none, .move (.const (.int .i64 0)), []⟩]]) 
 (.block 0 
 (.loop 
 (.seq 
 (.seq (.ops [.grp none [⟨some 17, none, .move (.tmp 5), []⟩, ⟨some 18, none, .move (.tmp 0), []⟩, ⟨some 19, none, .len (.tmp 18), []⟩, ⟨some 20, none, .bin .lss 3 (.tmp 17) (.tmp 19), []⟩, ⟨some 21, none, .move (.tmp 20), []⟩],
  .grp (some (some 21, true)) [⟨some 22, none, .move (.tmp 5), []⟩, ⟨some 23, none, .bin .lss 3 (.tmp 22) (.const (.int .i64 80)), []⟩],
  .grp none [⟨some 24, none, .pick (.tmp 21) (.tmp 23) (.const (.bool false)), []⟩]]) 
 (.cond (.tmp 24) .skip (.exit 0))) 
 (.seq 
 (.block 1 
 (.seq (.ops [.grp none [⟨some 27, none, .move (.tmp 0), []⟩, ⟨some 28, none, .move (.tmp 5), []⟩, ⟨some 29, none, .iaddr 5 (.tmp 27) (.tmp 28), []⟩, ⟨some 30, none, .faddr 0 (.tmp 29), []⟩, ⟨some 31, none, .load none (.tmp 30), []⟩]]) 
 (.block 2 
 (.seq 
 (.seq (.ops [.grp none [⟨some 45, none, .bin .eql 3 (.tmp 31) (.const (.int .i64 0)), []⟩, ⟨some 44, none, .move (.tmp 45), []⟩]]) 
 (.cond (.tmp 44) .skip 
 (.seq (.ops [.grp none [⟨some 46, none, .bin .eql 3 (.tmp 31) (.const (.int .i64 1)), []⟩, ⟨some 44, none, .move (.tmp 46), []⟩]]) 
 (.cond (.tmp 44) .skip (.ops [.grp none [⟨some 47, none, .bin .eql 3 (.tmp 31) (.const (.int .i64 2)), []⟩, ⟨some 44, none, .move (.tmp 47), []⟩]]))))) 
 (.cond (.tmp 44) 
 (.seq (.ops [.grp none [⟨some 48, none, .move (.tmp 3), []⟩, ⟨some 49, none, .move (.tmp 0), []⟩, ⟨some 50, none, .move (.tmp 5), []⟩, ⟨some 51, none, .iaddr 5 (.tmp 49) (.tmp 50), []⟩, ⟨some 52, none, .faddr 1 (.tmp 51), []⟩, ⟨some 53, none, .load none (.tmp 52), []⟩, ⟨some 54, none, .move (.tmp 0), []⟩, ⟨some 55, none, .move (.tmp 5), []⟩, ⟨some 56, none, .iaddr 5 (.tmp 54) (.tmp 55), []⟩, ⟨some 57, none, .faddr 3 (.tmp 56), []⟩, ⟨some 58, none, .load (some 2) (.tmp 57), []⟩, ⟨some 59, none, .call 9 #[.tmp 48, .tmp 53, .tmp 58], []⟩, ⟨some 60, none, .bin .eql 30 (.tmp 59) (.const (.int .i64 0)), []⟩]]) 
 (.cond (.tmp 60) (.ops [.grp none [⟨some 61, none, .move (.tmp 4), []⟩, ⟨some 62, none, .bin .add 3 (.tmp 61) (.const (.int .i64 1)), []⟩, ⟨some 4, none, .move (.tmp 62), []⟩]]) .skip)) 
 (.seq (.ops [.grp none [⟨some 64, none, .bin .eql 3 (.tmp 31) (.const (.int .i64 3)), []⟩, ⟨some 63, none, .move (.tmp 64), []⟩]]) 
 (.cond (.tmp 63) 
 (.seq (.ops [.grp none [⟨some 65, none, .move (.tmp 3), []⟩, ⟨some 66, none, .move (.tmp 0), []⟩, ⟨some 67, none, .move (.tmp 5), []⟩, ⟨some 68, none, .iaddr 5 (.tmp 66) (.tmp 67), []⟩, ⟨some 69, none, .faddr 1 (.tmp 68), []⟩, ⟨some 70, none, .load none (.tmp 69), []⟩, ⟨some 71, none, .move (.tmp 0), []⟩, ⟨some 72, none, .move (.tmp 5), []⟩, ⟨some 73, none, .iaddr 5 (.tmp 71) (.tmp 72), []⟩, ⟨some 74, none, .faddr 3 (.tmp 73), []⟩, ⟨some 75, none, .load (some 2) (.tmp 74), []⟩, ⟨some 76, none, .call 10 #[.tmp 65, .tmp 70, .tmp 75], []⟩, ⟨some 77, none, .bin .eql 30 (.tmp 76) (.const (.int .i64 0)), []⟩]]) 
 (.cond (.tmp 77) (.ops [.grp none [⟨some 78, none, .move (.tmp 4), []⟩, ⟨some 79, none, .bin .sub 3 (.tmp 78) (.const (.int .i64 1)), []⟩, ⟨some 4, none, .move (.tmp 79), []⟩]]) .skip)) (.ops [.grp none [⟨some 32, none, .move (.tmp 3), []⟩, ⟨some 33, none, .move (.tmp 0), []⟩, ⟨some 34, none, .move (.tmp 5), []⟩, ⟨some 35, none, .iaddr 5 (.tmp 33) (.tmp 34), []⟩, ⟨some 36, none, .faddr 1 (.tmp 35), []⟩, ⟨some 37, none, .load none (.tmp 36), []⟩, ⟨some 38, none, .move (.tmp 0), []⟩, ⟨some 39, none, .move (.tmp 5), []⟩, ⟨some 40, none, .iaddr 5 (.tmp 38) (.tmp 39), []⟩, ⟨some 41, none, .faddr 2 (.tmp 40), []⟩, ⟨some 42, none, .load none (.tmp 41), []⟩, ⟨some 43, none, .call 11 #[.tmp 32, .tmp 37, .tmp 42], []⟩]])))))))) (.ops [.grp none [⟨some 25, none, .move (.tmp 5), []⟩, ⟨some 26, none, .bin .add 3 (.tmp 25) (.const (.int .i64 1)), []⟩, ⟨some 5, none, .move (.tmp 26), []⟩]])))))) 
 t3))))⟩
theorem low3c : lowG Try.prog 3 = some g3c := by kernel_rfl

theorem take_sum (cs : List Nat) (j : Nat) : (cs.take j).sum ≤ cs.sum := by
  conv => rhs; rw [← List.take_append_drop j cs]
  rw [List.sum_append]; omega
theorem take_sum_succ {cs : List Nat} {j : Nat} (h : j < cs.length) : (cs.take (j + 1)).sum = (cs.take j).sum + cs[j] := by
  rw [List.take_succ_eq_append_getElem h, List.sum_append]; simp

theorem tail3 {K : Kont} {fuel : Nat} (hK : Maps K) {w : World} {ρ : Env} {b r : Nat} {m : MapL} {L : List On} (hp : MpAt w b r m L) (hL : Srt L) (hn : L.length ≤ 80) (e3 : ρ 3 = pt b) (e4 : ρ 4 = n64 L.length) (hf : 2000000 ≤ fuel) :
    codeR ⟨Try.prog, K, fuel, 3, none, 129, finPost Try.prog [⟨2, none⟩] fun u _ => u = .bool true⟩ t3 [] ρ [] w := by
  simp -implicitDefEqProofs [t3, e3]
  refine valA_of (hK.frames hp hL (by omega)) (fun u w1 hq => ?_)
  obtain ⟨hv, hk1, hb1⟩ := hq
  simp only at hv hk1 hb1
  have hp1 := hp.keep0 hk1
  have hfl := frames_len L
  have hsum := frames_sum hL
  have hfs := frames_srt hL
  have hne : ∀ g ∈ frames L, spots L g ≠ [] := fun g hg => frames_mem.1 hg
  generalize hF : frames L = F at *
  generalize hcs : F.map (fun f => (spots L f).length) = cs at *
  have hcl : cs.length = F.length := by rw [← hcs, List.length_map]
  simp -implicitDefEqProofs
  refine loop_go (fun i ρ w' => ∃ j : Nat, i = F.length - j ∧ j ≤ F.length ∧ ρ 3 = pt b ∧ ρ 4 = n64 L.length ∧ ρ 6 = u ∧ ρ 7 = n64 (cs.take j).sum ∧ ρ 8 = n64 j ∧ RowE (EInt 3) w' u F ∧ MpAt w' b r m L) ?_ (i := F.length) ?_ (by show F.length < fuel; omega)
  · rintro i ρ w' ⟨j, rfl, hj, e3, e4, e6, e7, e8, hv', hp'⟩
    have hlen := fun w' => hv'.lenS (w' := w')
    by_cases h1 : j < F.length
    · have h1' : (j : Int) < F.length := by omega
      obtain ⟨vb, vo, vcap, vc, hve, hvc, hvsz, hvat⟩ := hv'.int h1
      have hcj : cs[j]'(by omega) = (spots L F[j]).length := by subst hcs; simp
      have hts := take_sum_succ (cs := cs) (j := j) (by omega)
      have htl := take_sum cs (j + 1)
      have hpos : 0 < (spots L F[j]).length := List.length_pos_iff.2 (hne _ (List.getElem_mem h1))
      have x1 : IntKind.i64.wrap ((j : Int) + 1) = (j : Int) + 1 := by rw [IntKind.wrap_i64]; omega
      have x2 : IntKind.i64.wrap (((cs.take j).sum : Int) + ((spots L F[j]).length : Int)) = (cs.take (j + 1)).sum := by rw [IntKind.wrap_i64, hts, hcj]; omega
      have hlt1 : ¬ ((spots L F[j]).length : Int) < 1 := by omega
      have hva : ∀ h, vc[vo + j]'h = .int .i64 F[j] := fun h => by rw [Array.getElem?_eq_getElem h] at hvat; simpa using hvat
      have hsl : ∀ w', lenS u w' = .ret (.int .i64 (F.length : Int), w') := hlen
      rw [hve] at hsl
      simp -implicitDefEqProofs [e3, e4, e6, e7, e8, h1, h1', hve, hvc, hvsz, hva, hsl]
      refine valA_of (hK.count hp' F[j]) (fun u2 w2 hq => ?_)
      obtain ⟨hu, hw⟩ := hq
      simp only at hu hw
      subst hu hw
      simp -implicitDefEqProofs [e3, e6, e8, h1, h1', hve, hvc, hvsz, hva, hlt1, hsl]
      refine valA_of (hK.spots hp' F[j] (by omega)) (fun u3 w3 hq => ?_)
      obtain ⟨hs3, hk3⟩ := hq
      simp only at hs3 hk3
      have hp3 := hp'.keep0 hk3
      have hv3 := hv'.keep hk3 (fun _ _ h => h)
      have hvc3 := hk3.cells hvc (fun h => h)
      have hl3 := fun w' => hs3.lenS (w' := w')
      by_cases hj0 : j = 0
      · subst hj0
        simp -implicitDefEqProofs [hl3, e3, e4, e6, e7, e8]
        rw [Nat.zero_add, List.take_zero, List.sum_nil, hcj] at hts
        refine ⟨F.length - 1, by omega, 1, rfl, by omega, hve, ?_, by decide, by rw [← hve]; exact hv3, hp3⟩
        have := spots_len L F[0]
        rw [IntKind.wrap_i64]; omega
      · have hj1 : (0 : Int) < j := by omega
        have hj2 : 0 < j := by omega
        have x3 : IntKind.i64.wrap ((j : Int) - 1) = ((j - 1 : Nat) : Int) := by rw [IntKind.wrap_i64]; omega
        obtain ⟨vb2, vo2, vcap2, vc2, hve2, hvc2, hvsz2, hvat2⟩ := hv'.int (i := j - 1) (by omega)
        rw [hve] at hve2
        simp only [Value.slice.injEq, Option.some.injEq, Addr.mk.injEq, and_true, true_and] at hve2
        obtain ⟨⟨rfl, rfl⟩, rfl⟩ := hve2
        rw [hvc] at hvc2
        simp only [Option.some.injEq, Prod.mk.injEq, and_true] at hvc2
        subst hvc2
        have hva2 : ∀ h, vc[vo + (j - 1)]'h = .int .i64 (F[j - 1]'(by omega)) := fun h => by rw [Array.getElem?_eq_getElem h] at hvat2; simpa using hvat2
        have hlt : F[j - 1]'(by omega) < F[j] := List.pairwise_iff_getElem.1 hfs (j - 1) j (by omega) h1 (by omega)
        have hlt' : ¬ F[j] ≤ F[j - 1]'(by omega) := by omega
        have hj3 : j - 1 < F.length := by omega
        simp -implicitDefEqProofs [hl3, e3, e4, e6, e7, e8, x1, x2, x3, hj1, hj2, hj3, h1, h1', hve, hvc3, hvsz, hvsz2, hva, hva2, hlt']
        exact ⟨F.length - (j + 1), by omega, j + 1, rfl, by omega, rfl, by omega, by rw [← hve]; exact hv3, hp3⟩
    · have h2 : j = F.length := by omega
      subst h2
      have : cs.take F.length = cs := by rw [← hcl, List.take_length]
      rw [this, hsum] at e7
      simp -implicitDefEqProofs [e3, e4, e6, e7, e8, hlen]
  · exact ⟨0, by simp, Nat.zero_le _, by simp [e3], by simp [e4], by simp, by simp, by simp, hv, hp1⟩

theorem run3 {K : Kont} {fuel : Nat} (hK : Maps K) (hf : 2000000 ≤ fuel) {w : World} {v : Value} {xs : List ActR} (hv : ActsR w v xs) : wpGFn Try.prog K fuel 3 g3c #[v] w fun u _ => u = .bool true := by
  rw [gfn_start]
  simp -implicitDefEqProofs [g3c]
  refine valA_of (hK.new w) (fun u w1 hq => ?_)
  obtain ⟨b, r, hu, hp1, hk1⟩ := hq
  simp only at hu hp1 hk1
  subst hu
  simp -implicitDefEqProofs [nil23]
  refine valA_of (hK.awake w1) (fun u w2 hq => ?_)
  obtain ⟨hu, hw⟩ := hq
  simp only at hu hw
  subst hu hw
  simp -implicitDefEqProofs
  refine loop_go (fun i ρ w' => ∃ (q : Nat) (L : List On) (m : MapL), i = 80 - q ∧ q ≤ 80 ∧ q ≤ xs.length ∧ ρ 0 = v ∧ ρ 3 = pt b ∧ ρ 4 = n64 L.length ∧ ρ 5 = n64 q ∧ Ok L q ∧ MpAt w' b r m L ∧ KeepT w w') ?_ (i := 80) ?_ (by show 80 < fuel; omega)
  · rintro i ρ w' ⟨q, L, m, rfl, hq, hql, e0, e3, e4, e5, hok, hp, hk⟩
    have hv' := hv.keep hk
    have x1 : IntKind.i64.wrap ((q : Int) + 1) = (q : Int) + 1 := by rw [IntKind.wrap_i64]; omega
    have hll := hok.len
    have x2 : IntKind.i64.wrap ((L.length : Int) + 1) = (L.length : Int) + 1 := by rw [IntKind.wrap_i64]; omega
    have x3 : IntKind.i64.wrap ((L.length : Int) - 1) = (L.length : Int) - 1 := by rw [IntKind.wrap_i64]; omega
    by_cases h1 : q < xs.length ∧ q < 80
    · obtain ⟨h1, h2⟩ := h1
      have h1' : (q : Int) < xs.length := by omega
      have h2' : (q : Int) < 80 := by omega
      obtain ⟨bb, o, cap, c, e, fz, hve, hc, hsz, hext, c0, c1, c2, c3⟩ := hv'.at h1
      generalize xs[q] = a at *
      obtain ⟨k, f, t, s, p⟩ := a
      simp only at c0 c1 c2 c3
      have again : ∀ (w3 : World) (L3 : List On), L3 = stepR L ⟨k, f, t, s, p⟩ → RTo w' w3 b r L3 → (∃ m, MpAt w3 b r m L3) ∧ Ok L3 (q + 1) ∧ KeepT w w3 := fun w3 L3 h hr => by
        subst h; exact ⟨hr.1, hok.step _, hk.trans hr.2⟩
      by_cases k3 : k = 3
      · subst k3
        simp -implicitDefEqProofs [e0, e3, e4, e5, h1', h2', hve, hc, hsz, hext, h1, c0, c1, c2, c3]
        refine valA_of (hK.del hp hok.srt (by omega) f (s, p)) (fun u w3 hq3 => ?_)
        obtain ⟨hu, hr3⟩ := hq3
        simp only at hu hr3
        subst hu
        obtain ⟨⟨m3, hm3⟩, hok3, hk3⟩ := again w3 (delA L f (s, p)).2 (by simp [stepR, ansR]) hr3
        have hl3 := del_len hok.srt f (s, p)
        by_cases hz : (delA L f (s, p)).1 = 0
        · rw [if_pos hz] at hl3
          simp -implicitDefEqProofs [hz, e0, e3, e4, e5, x1, x2, x3]
          exact ⟨80 - (q + 1), by omega, q + 1, rfl, by omega, h1, hve, _, hl3.symm, by omega, hok3, ⟨m3, hm3⟩, hk3⟩
        · rw [if_neg hz] at hl3
          simp -implicitDefEqProofs [hz, e0, e3, e4, e5, x1, x2, x3]
          exact ⟨80 - (q + 1), by omega, q + 1, rfl, by omega, h1, hve, _, by omega, by omega, hok3, ⟨m3, hm3⟩, hk3⟩
      · by_cases k012 : k = 0 ∨ k = 1 ∨ k = 2
        · have fin : ∀ (u : Value) (w3 : World), u = n64 (addA L f (s, p)).1 ∧ RTo w' w3 b r (addA L f (s, p)).2 → ∃ m3 L3, L3 = (addA L f (s, p)).2 ∧ MpAt w3 b r m3 L3 ∧ Ok L3 (q + 1) ∧ KeepT w w3 ∧ u = n64 (addA L f (s, p)).1 ∧ ((L3.length : Int) = if (addA L f (s, p)).1 = 0 then (L.length : Int) + 1 else L.length) := fun u w3 h => by
            obtain ⟨⟨m3, hm3⟩, hok3, hk3⟩ := again w3 (addA L f (s, p)).2 (by simp only [stepR, ansR, if_pos k012]) h.2
            exact ⟨m3, _, rfl, hm3, hok3, hk3, h.1, add_len f (s, p)⟩
          rcases k012 with k0 | k0 | k0
          all_goals
            subst k0
            simp -implicitDefEqProofs [e0, e3, e4, e5, h1', h2', hve, hc, hsz, hext, h1, c0, c1, c2, c3]
            refine valA_of (hK.add hp hok.srt (by omega) f (s, p)) (fun u w3 hq3 => ?_)
            obtain ⟨m3, L3, _, hm3, hok3, hk3, hu, hl3⟩ := fin u w3 hq3
            subst hu
            by_cases hz : (addA L f (s, p)).1 = 0
            · rw [if_pos hz] at hl3
              simp -implicitDefEqProofs [hz, e0, e3, e4, e5, x1, x2, x3]
              exact ⟨80 - (q + 1), by omega, q + 1, rfl, by omega, h1, hve, _, hl3.symm, by omega, hok3, ⟨m3, hm3⟩, hk3⟩
            · rw [if_neg hz] at hl3
              simp -implicitDefEqProofs [hz, e0, e3, e4, e5, x1, x2, x3]
              exact ⟨80 - (q + 1), by omega, q + 1, rfl, by omega, h1, hve, _, by omega, by omega, hok3, ⟨m3, hm3⟩, hk3⟩
        · have k0 : ¬ k = 0 := fun h => k012 (.inl h)
          have k1 : ¬ k = 1 := fun h => k012 (.inr (.inl h))
          have k2 : ¬ k = 2 := fun h => k012 (.inr (.inr h))
          simp -implicitDefEqProofs [e0, e3, e4, e5, h1', h2', hve, hc, hsz, hext, h1, c0, c1, c2, c3, k0, k1, k2, k3]
          refine valA_of (hK.move hp hok.srt f t) (fun u w3 hq3 => ?_)
          obtain ⟨hu, hm3, hkr⟩ := hq3
          simp only at hu hm3 hkr
          have hkt : KeepT w' w3 := hp.keepT (f := 0) (hkr.mono fun j _ h => .inl h)
          obtain ⟨⟨m3, hm3⟩, hok3, hk3⟩ := again w3 (moveA L f t).2 (by simp only [stepR, ansR, if_neg k012, if_neg k3]) ⟨hm3, hkt⟩
          have hl3 := move_len hok.srt f t
          simp -implicitDefEqProofs [e0, e3, e4, e5, x1, x2, x3]
          exact ⟨80 - (q + 1), by omega, q + 1, rfl, by omega, h1, hve, _, by omega, by omega, hok3, ⟨m3, hm3⟩, hk3⟩
    · by_cases h1 : q < xs.length
      · have h2 : q = 80 := by omega
        subst h2
        have h1' : (80 : Int) < xs.length := by omega
        simp -implicitDefEqProofs [e0, e3, e4, e5, h1', hv'.len]
        refine tail3 hK hp hok.srt (by omega) (by simp [e3]) (by simp [e4]) hf
      · have h1' : ¬ (q : Int) < xs.length := by omega
        simp -implicitDefEqProofs [e0, e3, e4, e5, h1', hv'.len]
        refine tail3 hK hp hok.srt (by omega) (by simp [e3]) (by simp [e4]) hf
  · exact ⟨0, [], [], by simp, by omega, Nat.zero_le _, by simp, by simp, by simp, by simp, ⟨.nil, fun o h => (by cases h), Nat.le_refl _⟩, hp1, KeepT.of0 hk1⟩
end Go.Proofs.Ytcfhhfdkecbphaa
