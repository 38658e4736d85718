/-
  The program's buffer: Flush, FlushSpace, Put.
-/
import Derived.Test.YtplcocifndpplaaPj
namespace Go.Proofs.Ytplcocifndpplaa
open Go Go.Ideal

structure HasDrop (K : Kont) : Prop where
  go : ∀ {w : World} {b : Nat} {size : Int} {ls : List Line}, Buf w 89 b size ls → (∀ c ∈ ls, lineRight c = true) → ls.length ≤ 1000 → ∀ s p n, (0 ≤ p ∧ p < 9223372036854775808) → (1 ≤ n ∧ n < 9223372036854775808) →
    (K.enter 47 #[ptr b, i64 s, i64 p, i64 n] w).all fun r => r.1 = i64 ((ls.length : Int) - ((flushL ls s p n).length : Int)) ∧ Lay w r.2 89 b size (flushL ls s p n)

theorem hasDrop (m : Nat) (hm : 2000 ≤ m) : HasDrop (runA Try.prog sp5 (m + 3)) :=
  ⟨fun hb hr hl s p n hp hn => enter_ok (m := m + 2) low47 rfl (run47 (by omega) (hasHold m hm) hb hr hl s p n hp hn)⟩

/-- Pages below 0 are none. -/
theorem meets_neg {c : Line} {s p n : Int} (hc : lineRight c = true) (hp : p < 0) (_hn : 1 ≤ n + p) : meets c s p n = meets c s 0 (n + p) := by
  obtain ⟨_, _, hc1, hc2, _⟩ := lineRight_spec hc
  have hs := size_cases c.o
  rw [Bool.eq_iff_iff]
  simp [meets, hp]
  omega
theorem meets_none {c : Line} {s p n : Int} (hc : lineRight c = true) (hp : p < 0) (hn : n + p < 1) : meets c s p n = false := by
  obtain ⟨_, _, hc1, hc2, _⟩ := lineRight_spec hc
  have hs := size_cases c.o
  rw [Bool.eq_false_iff]
  simp [meets, hp]
  omega

theorem run22 {K : Kont} {fuel : Nat} (hD : HasDrop K) {w : World} {b : Nat} {size : Int} {ls : List Line} (hb : Buf w 89 b size ls) (hr : ∀ c ∈ ls, lineRight c = true) (hl : ls.length ≤ 1000) (s p n : Int) (hp : In64 p) (hn : In64 n) :
    wpGFn Try.prog K fuel 22 g22 #[ptr b, i64 s, i64 p, i64 n] w fun v w' => v = i64 ((ls.length : Int) - ((flushL ls s p n).length : Int)) ∧ Lay w w' 89 b size (flushL ls s p n) := by
  rw [gfn_start]
  by_cases hn1 : n < 1
  · simp -implicitDefEqProofs [g22, nil25, hn1, flushL]
    exact ⟨hb, Moves.refl _ _⟩
  · by_cases hp0 : p < 0
    · have w1 : IntKind.i64.wrap (n + p) = n + p := by rw [IntKind.wrap_i64]; obtain ⟨_, _⟩ := hp; obtain ⟨_, _⟩ := hn; omega
      by_cases h2 : n + p < 1
      · have he : flushL ls s p n = ls := by
          simp only [flushL, if_neg hn1]
          rw [List.filter_eq_self]
          intro c hc
          simp [meets_none (hr c hc) hp0 h2]
        have h3 : ¬ 0 < n + p := by omega
        by_cases h4 : n + p < 0
        · simp -implicitDefEqProofs [g22, nil25, hn1, hp0, w1, he, h4]
          exact ⟨hb, Moves.refl _ _⟩
        · have h5 : n + p = 0 := by omega
          have wz : IntKind.i64.wrap 0 = 0 := by rw [IntKind.wrap_i64]; rfl
          simp -implicitDefEqProofs [g22, nil25, hn1, hp0, wz, he, h5]
          exact ⟨hb, Moves.refl _ _⟩
      · have h3 : 0 < n + p := by omega
        have h4 : ¬ n + p < 0 := by omega
        have he : flushL ls s p n = flushL ls s 0 (n + p) := by
          simp only [flushL, if_neg hn1, if_neg h2]
          refine List.filter_congr fun c hc => ?_
          rw [meets_neg (hr c hc) hp0 (by omega)]
        simp -implicitDefEqProofs [g22, nil25, hn1, hp0, w1, h2, h4]
        refine valA_of (hD.go hb hr hl s 0 (n + p) ⟨by omega, by omega⟩ ⟨by omega, by obtain ⟨_, _⟩ := hn; omega⟩) (fun v w' hq => ?_)
        obtain ⟨hv, hlay⟩ := hq
        simp only at hv hlay
        subst hv
        simp -implicitDefEqProofs [he]
        exact hlay
    · simp -implicitDefEqProofs [g22, nil25, hn1, hp0]
      refine valA_of (hD.go hb hr hl s p n ⟨by omega, hp.2⟩ ⟨by omega, hn.2⟩) (fun v w' hq => ?_)
      obtain ⟨hv, hlay⟩ := hq
      simp only at hv hlay
      subst hv
      simp -implicitDefEqProofs
      exact hlay

structure HasFlush (K : Kont) : Prop where
  go : ∀ {w : World} {b : Nat} {size : Int} {ls : List Line}, Buf w 89 b size ls → (∀ c ∈ ls, lineRight c = true) → ls.length ≤ 1000 → ∀ s p n, In64 p → In64 n →
    (K.enter 22 #[ptr b, i64 s, i64 p, i64 n] w).all fun r => r.1 = i64 ((ls.length : Int) - ((flushL ls s p n).length : Int)) ∧ Lay w r.2 89 b size (flushL ls s p n)
theorem hasFlush (m : Nat) (hm : 2000 ≤ m) : HasFlush (runA Try.prog sp5 (m + 4)) :=
  ⟨fun hb hr hl s p n hp hn => enter_ok (m := m + 3) low22 rfl (run22 (hasDrop m hm) hb hr hl s p n hp hn)⟩

theorem run26 {K : Kont} {fuel : Nat} (hF : HasFlush K) {w : World} {b : Nat} {size : Int} {ls : List Line} (hb : Buf w 89 b size ls) (hr : ∀ c ∈ ls, lineRight c = true) (hl : ls.length ≤ 1000) (s : Int) :
    wpGFn Try.prog K fuel 26 g26 #[ptr b, i64 s] w fun v w' => v = i64 ((ls.length : Int) - ((flushL ls s 0 4096).length : Int)) ∧ Lay w w' 89 b size (flushL ls s 0 4096) := by
  rw [gfn_start]
  simp -implicitDefEqProofs [g26]
  refine valA_of (hF.go hb hr hl s 0 4096 ⟨by omega, by omega⟩ ⟨by omega, by omega⟩) (fun v w' hq => ?_)
  obtain ⟨hv, hlay⟩ := hq
  simp only at hv hlay
  subst hv
  simp -implicitDefEqProofs
  exact hlay

def cutC (v : Value) : Value := match v with
  | .slice base len _ => .slice base len len
  | v => v
theorem cutC_eq {w : World} {v : Value} {ls : List Line} (h : Lns w v ls) (hroom : ls.length ≤ 1000000) : sliceS 31 5 v none (some (.int .i64 (ls.length : Int))) (some (.int .i64 (ls.length : Int))) w = .ret (cutC v, w) := by
  have hO : OPEN = 4611686018427387904 := rfl
  rcases h with ⟨rfl, rfl⟩ | ⟨b, o, cap, c, rfl, hc, h1, ⟨rfl, rfl⟩ | ⟨h2, h3⟩⟩
  · unfold sliceS
    simp only [intO]
    rw [if_pos (by omega), if_pos (by simp)]
    simp [cutC]
  · unfold sliceS
    simp only [intO]
    rw [if_pos (by omega), if_pos (by simp)]
    simp [cutC]
  · have hsz := Lns.size h1 h2
    unfold sliceS
    simp only [intO]
    rcases h3 with rfl | ⟨rfl, hcap⟩
    · rw [if_neg (Nat.lt_irrefl _)]
      simp only [hc]
      rw [if_pos ⟨trivial, trivial, by omega, by omega, by omega⟩]
      simp [cutC]
      omega
    · rw [if_pos hcap, if_pos ⟨by omega, by omega, by omega, by omega, fun h => by omega⟩]
      simp only [Int.toNat_natCast, cutC]
      split <;> simp [Addr.add_off]
theorem cutC_lns {w : World} {v : Value} {ls : List Line} (h : Lns w v ls) (hroom : ls.length ≤ 1000000) : Lns w (cutC v) ls ∧ blockOf (cutC v) = blockOf v := by
  have h1 := cut_all (k := .i64) (k2 := .i64) (Q := fun r => Lns w r.1 ls ∧ blockOf r.1 = blockOf v) h hroom (fun v' a b => ⟨a, b⟩)
  rw [cutC_eq h hroom] at h1
  exact h1

theorem tail24 {K : Kont} {fuel : Nat} {w w4 : World} {b : Nat} {size : Int} {v v3 v4 x : Value} {l3 : List Line} {c : Line} {Q : Value → World → Prop} {ρ : Env} (hv : cellsOf? w b = some (#[i64 size, v], 89, (0, 0))) (h39 : ρ 39 = ptr b)
    (hl4 : Lns w4 v4 l3) (hsrc : Src w4 x [c]) (hv4 : cellsOf? w4 b = some (#[i64 size, v3], 89, (0, 0))) (hlen : l3.length ≤ 1000) (hk : Keeps w w4 (foot w b)) (hb4 : ∀ j, blockOf v4 = some j → j ≠ b ∧ (foot w b j ∨ w.heap.size ≤ j))
    (hQ : ∀ w', Lay w w' 89 b size (l3 ++ [c]) → Q (i64 0) w') :
    valA ⟨Try.prog, K, fuel, 24, none, 60, finPost Try.prog [⟨4, none⟩] Q⟩ (some 57) [] [⟨some 58, none, .nonnil (.tmp 39), []⟩, ⟨some 59, none, .faddr 1 (.tmp 58), []⟩, ⟨none, none, .store 1 (.tmp 59) (.tmp 57), []⟩] []
      [.code (.seq (.ops [.grp none [⟨some 4, none, .move (.const (.int .i64 0)), []⟩]]) .ret)] (appendS 31 5 40 v4 x w4) ρ [] := by
  refine app hl4 hsrc (by simp; omega) (fun v5 w5 hl5 hk5 _ hnn5 => ?_)
  have hb5 := hnn5 (by simp)
  have hv5 := hk5.cells hv4 (fun h => (hb4 b h).1 rfl)
  obtain ⟨hc5, ho5⟩ := hl5.cell
  simp -implicitDefEqProofs [h39, hv5, hc5, ho5]
  refine hQ _ (lay_set hv (hk.trans hk5 (fun _ _ h => h) (fun j hj h => ?_)) hl5 (fun j hj => .inl ?_))
  · rcases (hb4 j h).2 with g | g
    · exact g
    · omega
  · rw [hb5] at hj
    simp only [Option.some.injEq] at hj
    have := hk.1
    omega

theorem run24 {K : Kont} {fuel : Nat} (hK : Has K) (hD : HasDrop K) {w : World} {b : Nat} {size : Int} {ls : List Line} (hb : Buf w 89 b size ls) (hr : ∀ c ∈ ls, lineRight c = true) (hl : ls.length ≤ 900) (hsz : 1 ≤ size) (hls : (ls.length : Int) ≤ size) (c : Line) :
    wpGFn Try.prog K fuel 24 g24 #[ptr b, c.val] w fun v w' => (lineRight c = false ∧ v = i64 2 ∧ Lay w w' 89 b size ls) ∨ (lineRight c = true ∧ v = i64 0 ∧ Lay w w' 89 b size (putL ls size c)) := by
  rw [gfn_start]
  have h49 := fun w => hK.right49 c w
  obtain ⟨hb1, hf1⟩ := hb.keep (Keeps.push w (.cells c.cells 31) (fun _ => False)) (fun _ _ h => h)
  have hm1 : Moves w (World.push w (.cells c.cells 31)) b := ⟨Keeps.push _ _ _, fun j hj => .inl ((hf1 j).1 hj)⟩
  cases hc : lineRight c with
  | false =>
    simp only [hc, Line.val] at h49
    simp -implicitDefEqProofs [g24, Line.val, h49, nil25]
    exact ⟨hb1, hm1⟩
  | true =>
    simp only [hc, Line.val] at h49
    obtain ⟨ho, _, hc1, hc2, _⟩ := lineRight_spec hc
    have hs := size_cases c.o
    have o2 := shl_line ho
    simp -implicitDefEqProofs [g24, Line.val, h49, nil25, o2, -ar_shl]
    refine valA_of (hD.go hb1 hr (by omega) c.s c.p (sizeOf c.o) ⟨by omega, by omega⟩ ⟨by omega, by omega⟩) (fun v w2 hq => ?_)
    obtain ⟨_, ⟨v2, hv2, hl2, hne2⟩, hmv⟩ := hq
    simp only at hv2 hl2 hmv
    obtain ⟨vb, vc, hve⟩ := hl2.shape
    obtain ⟨v0, hv0, hl0, hne0⟩ := id hb
    have hbox : cellsOf? w2 w.heap.size = some (c.cells, 31, (0, 0)) := hmv.1.cells (by simp) (fun h => by have := hb.foot_lt ((hf1 _).1 h); omega)
    have hfl := flushL_len ls c.s c.p (sizeOf c.o)
    have hbw : b ≠ w.heap.size := Nat.ne_of_lt (cells_lt hv0)
    have hk2 : Keeps w w2 (foot w b) := (hm1.trans hmv).1
    by_cases hfull : size ≤ ((flushL ls c.s c.p (sizeOf c.o)).length : Int)
    · have hfe : ((flushL ls c.s c.p (sizeOf c.o)).length : Int) = size := by omega
      simp -implicitDefEqProofs [hv2, hl2.len, hfe]
      refine cut_one hl2 (by omega) (by omega) (fun v3 hl3 hb3 => ?_)
      obtain ⟨hc3, ho3⟩ := hl3.cell
      have hset : Keeps w2 (World.set w2 b (.cells #[i64 size, v3] 89)) (fun j => j = b) := Keeps.set _ _ _ (fun _ => rfl)
      have hl3' := hl3.keep hset (fun j hj => hne2 j (by rw [← hb3]; exact hj))
      have hp : Keeps (World.set w2 b (.cells #[i64 size, v3] 89)) (World.push (World.set w2 b (.cells #[i64 size, v3] 89)) (.cells c.cells 31)) (fun _ => False) := Keeps.push _ _ _
      have hlp := hl3'.keep hp (fun _ _ h => h)
      have hlen3 : ((flushL ls c.s c.p (sizeOf c.o)).drop 1).length ≤ 1000 := by simp; omega
      have hblt := cells_lt hv2
      have e2 : ¬ b = w2.heap.size := Nat.ne_of_lt hblt
      have hC := cutC_eq hl3' (by omega)
      have hCp := cutC_eq hlp (by omega)
      obtain ⟨hCl, hCb⟩ := cutC_lns hlp (by omega)
      have vC := veq_slice_self (v := cutC v3) (by obtain ⟨x, y, h⟩ := hCl.shape; exact ⟨_, _, _, h⟩)
      have vV := veq_slice_self (v := v3) (by obtain ⟨x, y, h⟩ := hl3.shape; exact ⟨_, _, _, h⟩)
      have hbw' : ¬ w.heap.size = b := fun h => hbw h.symm
      generalize hL : (flushL ls c.s c.p (sizeOf c.o)).drop 1 = L3 at *
      simp -implicitDefEqProofs [hv2, hc3, ho3, hblt, hl3.len, hC, hCp, vC, vV, e2, hbox, hbw', row_one']
      refine tail24 (w := w) (c := c) (v3 := v3) (l3 := L3) hv0 (by simp) hCl (src_one (r := w2.heap.size) (by simp)) (by simp [e2, hblt]) hlen3 ?_ ?_ (fun w' h => ?_)
      · exact (hk2.trans hset (fun _ _ h => h) (fun _ _ h => .inl h)).trans hp (fun _ _ h => h) (fun _ _ h => h.elim)
      · intro j hj
        rw [hCb, hb3] at hj
        refine ⟨hne2 j hj, ?_⟩
        rcases hmv.2 j (.inr ⟨_, v2, _, _, hv2, hj⟩) with g | g
        · exact .inl ((hf1 j).1 g)
        · exact .inr (by simp at g; omega)
      · simp only [putL, hfull, if_true, hL]; exact ⟨trivial, h⟩
    · have hfe : ¬ ((flushL ls c.s c.p (sizeOf c.o)).length : Int) = size := by omega
      have hp : Keeps w2 (World.push w2 (.cells c.cells 31)) (fun _ => False) := Keeps.push _ _ _
      have hlp := hl2.keep hp (fun _ _ h => h)
      have hblt := cells_lt hv2
      have e2 : ¬ b = w2.heap.size := Nat.ne_of_lt hblt
      have hC := cutC_eq hl2 (by omega)
      have hCp := cutC_eq hlp (by omega)
      obtain ⟨hCl, hCb⟩ := cutC_lns hlp (by omega)
      have vC := veq_slice_self (v := cutC v2) (by obtain ⟨x, y, h⟩ := hCl.shape; exact ⟨_, _, _, h⟩)
      have vV := veq_slice_self (v := v2) ⟨_, _, _, hve⟩
      generalize hL : flushL ls c.s c.p (sizeOf c.o) = L3 at *
      simp -implicitDefEqProofs [hv2, hl2.len, hfe, hC, hCp, vC, vV, e2, hbox, row_one']
      refine tail24 (w := w) (c := c) (v3 := v2) (l3 := L3) hv0 (by simp) hCl (src_one (r := w2.heap.size) (by simp)) (by simp [e2, hv2]) (by omega) ?_ ?_ (fun w' h => ?_)
      · exact hk2.trans hp (fun _ _ h => h) (fun _ _ h => h.elim)
      · intro j hj
        rw [hCb] at hj
        refine ⟨hne2 j hj, ?_⟩
        rcases hmv.2 j (.inr ⟨_, v2, _, _, hv2, hj⟩) with g | g
        · exact .inl ((hf1 j).1 g)
        · exact .inr (by simp at g; omega)
      · simp only [putL, hL, hfull, if_false]; exact ⟨trivial, h⟩
end Go.Proofs.Ytplcocifndpplaa
/-! The program's buffer: Look. -/
namespace Go.Proofs.Ytplcocifndpplaa
open Go Go.Ideal

theorem lowA16 : grpC (lowC Try.prog 29 (pcOf (rfA 16))) = ga16 ∧ grpC (lowC Try.prog 29 (pcOf (rfB 16))) = gb16 := by
  have h := lowR16
  simp only [lowRange, Prod.mk.injEq] at h
  obtain ⟨h1, h2, h3⟩ := h
  rw [h1] at h2 h3
  exact ⟨h2, h3⟩

theorem round16 {K3 : Kont} {f3 : Nat} {w : World} {l M : Nat} {i : Int} {c z : Line} {bb : Bool} {ρ0 : Env} {r : Loop} (h6 : ρ0 6 = ptr M) (h7 : ρ0 7 = ptr (M + 1)) (hl : w.heap[l]? = some (.loop r)) (hr : r.state = .ready)
    (hc : cellsOf? w M = some (z.cells, 31, (0, 0))) (hd : cellsOf? w (M + 1) = some (#[.bool bb], 4, (0, 0))) (hl0 : l ≠ M) (hl1 : l ≠ M + 1) :
    (iround Try.prog K3 f3 l 16 (((arr 29 ρ0).setIfInBounds 25 (i64 i)).setIfInBounds 26 (.agg c.cells)) (rfA 16) (rfB 16) w).all fun x => x.1 = .bool false ∧ x.2.heap[l]? = some (.loop { r with state := .done, pending := some .ret }) ∧
      cellsOf? x.2 M = some (c.cells, 31, (0, 0)) ∧ cellsOf? x.2 (M + 1) = some (#[.bool true], 4, (0, 0)) ∧ Keeps w x.2 (fun j => j = l ∨ j = M ∨ j = M + 1) := by
  apply round_rule (n := 29) lowA16.1 lowA16.2
  · simp
  rw [code_start]
  have hll := (Array.getElem?_eq_some_iff.1 hl).1
  have hk0 : Keeps w (World.set (World.push w (.cells zeroL.cells 31)) w.heap.size (.cells c.cells 31)) (fun _ => False) :=
    (Keeps.push w (.cells zeroL.cells 31) (fun _ => False)).trans (Keeps.set _ w.heap.size _ (F := fun j => j = w.heap.size) (fun _ => rfl)) (fun _ _ h => h) (fun j hj h => by omega)
  simp -implicitDefEqProofs [ga16, -of_at]
  refine ⟨r, hk0.at hl (fun h => h), hr, ?_⟩
  rw [code_start]
  generalize hw1 : World.set (World.push w (.cells zeroL.cells 31)) w.heap.size (.cells c.cells 31) = w1 at *
  have n9 : cellsOf? w1 w.heap.size = some (c.cells, 31, (0, 0)) := by rw [← hw1]; simp
  have hl2 := hk0.at hl (fun h => h)
  have hll2 := (Array.getElem?_eq_some_iff.1 hl2).1
  have hk1 : Keeps w1 (World.set w1 l (.loop { r with state := .busy })) (fun j => j = l) := Keeps.set _ _ _ fun _ => rfl
  have hc1 := hk1.cells (hk0.cells hc (fun h => h)) (fun h => hl0 h.symm)
  have hd1 := hk1.cells (hk0.cells hd (fun h => h)) (fun h => hl1 h.symm)
  have hn1 := hk1.cells n9 (by omega)
  have hM := cells_lt hc1
  have hM1 := cells_lt hd1
  simp only [size_set] at hM hM1
  have hsz := hk0.1
  have e1 : ¬ w.heap.size = M := by have := cells_lt hc; omega
  have e2 : ¬ M + 1 = M := by omega
  have e3 : ¬ l = M := hl0
  have e4 : ¬ l = M + 1 := hl1
  simp -implicitDefEqProofs [gb16, h6, h7, hc1, hd1, hn1, hM, -of_at]
  refine ⟨{ r with state := .busy }, by rw [at_set, if_neg (fun h => e4 h.1), at_set, if_neg (fun h => e3 h.1), at_set, if_pos ⟨rfl, hll2⟩], ?_⟩
  have k2 : Keeps (World.set w1 l (.loop { r with state := .busy })) (World.set (World.set w1 l (.loop { r with state := .busy })) M (.cells c.cells 31)) (fun j => j = M) := Keeps.set _ _ _ fun _ => rfl
  have k3 : Keeps (World.set (World.set w1 l (.loop { r with state := .busy })) M (.cells c.cells 31)) (World.set (World.set (World.set w1 l (.loop { r with state := .busy })) M (.cells c.cells 31)) (M + 1) (.cells #[.bool true] 4)) (fun j => j = M + 1) := Keeps.set _ _ _ fun _ => rfl
  have k4 := Keeps.set (World.set (World.set (World.set w1 l (.loop { r with state := .busy })) M (.cells c.cells 31)) (M + 1) (.cells #[.bool true] 4)) l (.loop { r with state := .done, pending := some .ret }) (F := fun j => j = l) (fun _ => rfl)
  refine ⟨by rw [at_set, if_pos ⟨rfl, by simpa using hll2⟩], ?_, ?_, ?_⟩
  · refine k4.cells (k3.cells ?_ (by omega)) (by omega)
    simp [hM]
  · refine k4.cells ?_ (by omega)
    simp [hM1]
  · refine ((hk0.trans hk1 (fun _ _ h => h.elim) (fun _ _ h => .inl h)).trans k2 (fun _ _ h => h) (fun _ _ h => .inr (.inl h))).trans (k3.trans k4 (H := fun j => j = l ∨ j = M ∨ j = M + 1) (fun _ _ h => .inr (.inr h)) (fun _ _ h => .inl h)) (fun _ _ h => h) (fun _ _ h => h)

/-- A page that is none. -/
theorem look_out {ls : List Line} (hr : ∀ c ∈ ls, lineRight c = true) {s p : Int} (hp : p < 0 ∨ 4096 ≤ p) : lookL ls s p = none := by
  refine List.find?_eq_none.2 fun c hc => ?_
  have hcr := hr c hc
  obtain ⟨_, _, hc1, hc2, hc3, _⟩ := lineRight_spec hcr
  have hs := size_cases c.o
  simp [lineHolds]
  intro _ h2
  rcases hs with h | h | h <;> simp only [h] at hc3 ⊢ <;> omega
theorem hit_holds {c : Line} {s p : Int} (_hp : 0 ≤ p) : hit c s p 1 = lineHolds c s p := by
  have hs := size_cases c.o
  rw [Bool.eq_iff_iff]
  simp [hit, lineHolds]
  omega

theorem run16 {K K3 : Kont} {fuel f3 : Nat} (hH : HasHold K (iround Try.prog K3 f3)) {w : World} {b : Nat} {size : Int} {ls : List Line} (hb : Buf w 89 b size ls) (hr : ∀ c ∈ ls, lineRight c = true) (hl : ls.length ≤ 1000) (s p : Int) :
    wpGFn Try.prog K fuel 16 g16 #[ptr b, i64 s, i64 p] w fun v w' => v = lookV (lookL ls s p) ∧ Keeps w w' (fun _ => False) := by
  rw [gfn_start]
  obtain ⟨v, hv, hlns, hne⟩ := id hb
  have hblt := cells_lt hv
  have hout : ∀ (w' : World), w'.heap.size = w.heap.size + 2 → Keeps w w' (fun _ => False) → Keeps w (World.set (World.set w' w.heap.size (.cells zeroL.cells 31)) (w.heap.size + 1) (.cells #[.bool false] 4)) (fun _ => False) := fun w' _ hk =>
    ((hk.trans (Keeps.set _ w.heap.size _ (F := fun j => w.heap.size ≤ j) (fun _ => Nat.le_refl _)) (fun _ _ h => h) (fun j hj h => by omega)).trans (Keeps.set _ (w.heap.size + 1) _ (F := fun j => w.heap.size ≤ j) (fun _ => by omega)) (fun _ _ h => h) (fun j hj h => by omega))
  have hp2 : Keeps w (World.push (World.push w (.cells zeroL.cells 31)) (.cells #[.bool false] 4)) (fun _ => False) := (Keeps.push _ _ _).trans (Keeps.push _ _ _) (fun _ _ h => h) (fun _ _ h => h)
  unfold g16
  generalize hA : rfA 16 = A
  generalize hB : rfB 16 = B
  by_cases h1 : p < 0
  · rw [look_out hr (.inl h1)]
    simp -implicitDefEqProofs [nil25, h1, build_zero, lookV, Line.val]
    exact hout _ (by simp) hp2
  · by_cases h2 : 4096 ≤ p
    · rw [look_out hr (.inr h2)]
      simp -implicitDefEqProofs [nil25, h1, h2, build_zero, lookV, Line.val]
      exact hout _ (by simp) hp2
    · simp -implicitDefEqProofs [nil25, h1, h2]
      refine valA_of (hH.h45 s p 1) (fun v1 w1 hq => ?_)
      obtain ⟨hv1, hw1⟩ := hq
      simp only at hv1 hw1
      subst hv1
      simp -implicitDefEqProofs
      have g0 : w1.heap.size = w.heap.size + 6 := by simp [hw1]
      have k6 : Keeps (World.push w (.cells zeroL.cells 31)) w1 (fun _ => False) := by
        rw [hw1]
        exact ((((Keeps.push _ _ _).trans (Keeps.push _ _ _) (fun _ _ h => h) (fun _ _ h => h)).trans (Keeps.push _ _ _) (fun _ _ h => h) (fun _ _ h => h)).trans (Keeps.push _ _ _) (fun _ _ h => h) (fun _ _ h => h)).trans (Keeps.push _ _ _) (fun _ _ h => h) (fun _ _ h => h)
      have g6 : cellsOf? w1 w.heap.size = some (zeroL.cells, 31, (0, 0)) := k6.cells (by simp) (fun h => h)
      have g7 : cellsOf? w1 (w.heap.size + 1) = some (#[.bool false], 4, (0, 0)) := by simp [hw1]
      have gt : cellsOf? w1 (w.heap.size + 2) = some (#[ptr b], 25, (0, 0)) := by simp [hw1]
      have gs : cellsOf? w1 (w.heap.size + 3) = some (#[i64 s], 3, (0, 0)) := by simp [hw1]
      have gp : cellsOf? w1 (w.heap.size + 4) = some (#[i64 p], 3, (0, 0)) := by simp [hw1]
      have gn : cellsOf? w1 (w.heap.size + 5) = some (#[i64 1], 3, (0, 0)) := by simp [hw1]
      have gk : Keeps w w1 (fun _ => False) := by
        rw [hw1]
        exact (((hp2.trans (Keeps.push _ _ _) (fun _ _ h => h) (fun _ _ h => h)).trans (Keeps.push _ _ _) (fun _ _ h => h) (fun _ _ h => h)).trans (Keeps.push _ _ _) (fun _ _ h => h) (fun _ _ h => h)).trans (Keeps.push _ _ _) (fun _ _ h => h) (fun _ _ h => h)
      clear hw1 hout hp2
      refine range_go (f := 64) (first := #[]) (captured := #[ptr (w.heap.size + 2), ptr (w.heap.size + 2 + 2), ptr (w.heap.size + 2 + 3), ptr (w.heap.size + 2 + 1)]) rfl (show 24 < 29 by decide) ?_ body64 ?_
      · simp
      · generalize hρ : Env.put _ (some 24) _ = ρ0
        have r6 : ρ0 6 = ptr w.heap.size := by rw [← hρ]; simp
        have r7 : ρ0 7 = ptr (w.heap.size + 1) := by rw [← hρ]; simp
        clear hρ
        subst hA hB
        generalize hW : World.push (World.push _ _) _ = W1
        have k1 : Keeps w1 W1 (fun _ => False) := by rw [← hW]; exact (Keeps.push _ _ _).trans (Keeps.push _ _ _) (fun _ _ h => h) (fun _ _ h => h)
        have hsz : W1.heap.size = w.heap.size + 8 := by rw [← hW]; simp [g0]
        have hd : W1.heap[w.heap.size + 6]? = some (.deferred (some [])) := by rw [← hW, at_push, if_neg (by simp; omega), at_push, if_pos g0.symm]
        have hloop : W1.heap[w.heap.size + 7]? = some (.loop ⟨.ready, none, 16, arr 29 ρ0, #[25, 26], rfA 16, rfB 16, w.heap.size + 6⟩) := by rw [← hW, at_push, if_pos (by simp; omega)]; simp only [g0]
        clear hW
        have g6 := k1.cells g6 (fun h => h)
        have g7 := k1.cells g7 (fun h => h)
        have gt := k1.cells gt (fun h => h)
        have gs := k1.cells gs (fun h => h)
        have gp := k1.cells gp (fun h => h)
        have gn := k1.cells gn (fun h => h)
        have gk : Keeps w W1 (fun _ => False) := gk.trans k1 (fun _ _ h => h) (fun _ _ h => h)
        clear k1
        rw [g0]
        have hv1 := gk.cells hv (fun h => h)
        have hl1 := hlns.keep gk (fun _ _ h => h)
        refine T.all_mono (fun r hr2 => ?_) (hH.h64 (w := W1) (l := w.heap.size + 7) (q0 := w.heap.size + 2) (q1 := w.heap.size + 4) (q2 := w.heap.size + 5) (q3 := w.heap.size + 3) (b := b) (size := size) (s := s) (v := v) hr hl (p := p) (n := 1) ⟨by omega, by omega⟩ ⟨by omega, by omega⟩
          (r := ⟨.ready, none, 16, arr 29 ρ0, #[25, 26], rfA 16, rfB 16, w.heap.size + 6⟩) rfl
          (fun i w' => Keeps W1 w' (fun j => j = w.heap.size + 7) ∧ w'.heap[w.heap.size + 7]? = some (.loop ⟨.ready, none, 16, arr 29 ρ0, #[25, 26], rfA 16, rfB 16, w.heap.size + 6⟩) ∧ ∀ c ∈ ls.take i, lineHolds c s p = false)
          (fun w' => Keeps W1 w' (fun j => j = w.heap.size + 7 ∨ j = w.heap.size ∨ j = w.heap.size + 1) ∧ w'.heap[w.heap.size + 7]? = some (.loop ⟨.done, some .ret, 16, arr 29 ρ0, #[25, 26], rfA 16, rfB 16, w.heap.size + 6⟩) ∧
            ∃ c, lookL ls s p = some c ∧ cellsOf? w' w.heap.size = some (c.cells, 31, (0, 0)) ∧ cellsOf? w' (w.heap.size + 1) = some (#[.bool true], 4, (0, 0))) ?_ ?_ ?_ ?_ ?_)
        · rcases hr2 with ⟨hk, hlp, hm⟩ | ⟨hk, hlp, c, hf, hc6, hc7⟩
          · refine ⟨_, hlp, by simp, ?_⟩
            rw [List.take_length] at hm
            have hfind : lookL ls s p = none := List.find?_eq_none.2 fun c hc => by simp [hm c hc]
            have ks := Keeps.set r.2 (w.heap.size + 7) (.loop { (⟨.ready, none, 16, arr 29 ρ0, #[25, 26], rfA 16, rfB 16, w.heap.size + 6⟩ : Loop) with state := .exhausted }) (F := fun j => j = w.heap.size + 7) (fun _ => rfl)
            have e6 := ks.cells (hk.cells g6 (by omega)) (by omega)
            have e7 := ks.cells (hk.cells g7 (by omega)) (by omega)
            have hd' := ks.at (hk.at hd (by omega)) (by omega)
            have kk : Keeps w (World.set r.2 (w.heap.size + 7) (.loop { (⟨.ready, none, 16, arr 29 ρ0, #[25, 26], rfA 16, rfB 16, w.heap.size + 6⟩ : Loop) with state := .exhausted })) (fun j => w.heap.size ≤ j) := gk.trans (hk.trans ks (H := fun j => j = w.heap.size + 7) (fun _ _ h => h) (fun _ _ h => h)) (fun _ _ h => h.elim) (fun _ _ h => by omega)
            simp only at e6 e7 hd' kk
            generalize World.set r.2 _ _ = w2 at *
            have l6 := cells_lt e6
            have l7 := cells_lt e7
            simp -implicitDefEqProofs [-of_at, r6, r7, build_zero, e6, e7, l6]
            refine finPost_mark ?_ ?_
            · rw [at_set, if_neg (by omega), at_set, if_neg (by omega)]; exact hd'
            · have kd := Keeps.set (World.set (World.set w2 w.heap.size (.cells zeroL.cells 31)) (w.heap.size + 1) (.cells #[.bool false] 4)) (w.heap.size + 6) (.deferred none) (F := fun j => j = w.heap.size + 6) fun _ => rfl
              have f6 := kd.cells (b := w.heap.size) (x := (zeroL.cells, 31, (0, 0))) (by simp [l6]) (by omega)
              have f7 := kd.cells (b := w.heap.size + 1) (x := (#[.bool false], 4, (0, 0))) (by simp [l7]) (by omega)
              simp -implicitDefEqProofs [-of_at, r6, r7, f6, f7, hfind, lookV, Line.val]
              refine kk.trans ((Keeps.set _ w.heap.size _ (F := fun j => w.heap.size ≤ j) fun _ => by omega).trans ((Keeps.set _ (w.heap.size + 1) _ (F := fun j => w.heap.size ≤ j) fun _ => by omega).trans (Keeps.set _ (w.heap.size + 6) _ (F := fun j => w.heap.size ≤ j) fun _ => by omega) (fun _ _ h => h) (fun _ _ h => h)) (H := fun j => w.heap.size ≤ j) (fun _ _ h => h) (fun _ _ h => h)) (fun j hj h => by omega) (fun j hj h => by omega)
          · refine ⟨_, hlp, by simp, ?_⟩
            have ks := Keeps.set r.2 (w.heap.size + 7) (.loop { (⟨.done, some .ret, 16, arr 29 ρ0, #[25, 26], rfA 16, rfB 16, w.heap.size + 6⟩ : Loop) with state := .exhausted }) (F := fun j => j = w.heap.size + 7) (fun _ => rfl)
            have e6 := ks.cells hc6 (by omega)
            have e7 := ks.cells hc7 (by omega)
            have hd' := ks.at (hk.at hd (by omega)) (by omega)
            have kk : Keeps w (World.set r.2 (w.heap.size + 7) (.loop { (⟨.done, some .ret, 16, arr 29 ρ0, #[25, 26], rfA 16, rfB 16, w.heap.size + 6⟩ : Loop) with state := .exhausted })) (fun j => w.heap.size ≤ j) := gk.trans (hk.trans ks (H := fun j => w.heap.size ≤ j) (fun _ _ h => by omega) (fun _ _ h => by omega)) (fun _ _ h => h.elim) (fun _ _ h => h)
            simp only at e6 e7 hd' kk
            generalize World.set r.2 _ _ = w2 at *
            simp -implicitDefEqProofs [-of_at]
            refine finPost_mark hd' ?_
            have kd := Keeps.set w2 (w.heap.size + 6) (.deferred none) (F := fun j => j = w.heap.size + 6) fun _ => rfl
            have f6 := kd.cells e6 (by omega)
            have f7 := kd.cells e7 (by omega)
            simp -implicitDefEqProofs [-of_at, r6, r7, f6, f7, hf, lookV, Line.val]
            exact kk.trans (Keeps.set _ (w.heap.size + 6) _ (F := fun j => w.heap.size ≤ j) fun _ => by omega) (fun j hj h => by omega) (fun j hj h => by omega)
        · rintro i w' ⟨hk, hlp, hm⟩
          exact ⟨hlp, hk.cells gt (by omega), hk.cells gp (by omega), hk.cells gn (by omega), hk.cells gs (by omega), hk.cells hv1 (by omega), hl1.keep hk (fun j hj => by have := hlns.block_lt hj; omega)⟩
        · rintro i w' w'' ⟨hk, hlp, hm⟩ hk2
          exact ⟨hk.trans hk2 (fun _ _ h => h) (fun _ _ h => h.elim), hk2.at hlp (fun h => h), hm⟩
        · rintro i w' hi hh ⟨hk, hlp, hm⟩
          refine ⟨hk, hlp, ?_⟩
          rw [List.take_succ_eq_append_getElem hi]
          intro c hc
          rw [List.mem_append, List.mem_singleton] at hc
          rcases hc with hc | rfl
          · exact hm c hc
          · rw [← hit_holds (by omega)]; exact hh
        · rintro i w' hi hh ⟨hk, hlp, hm⟩
          rw [fold_two]
          refine T.all_mono (fun x hx => ?_) (round16 (c := ls[i]) r6 r7 hlp rfl (hk.cells g6 (by omega)) (hk.cells g7 (by omega)) (by omega) (by omega))
          obtain ⟨hx1, hx2, hx3, hx4, hx5⟩ := hx
          refine .inr ⟨hx1, hk.trans hx5 (fun _ _ h => .inl h) (fun _ _ h => h), hx2, ls[i], find_take hi hm ?_, hx3, hx4⟩
          rw [← hit_holds (by omega)]; exact hh
        · exact ⟨Keeps.refl _ _, hloop, by simp⟩
end Go.Proofs.Ytplcocifndpplaa
