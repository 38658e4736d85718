/-
  Processors: the document's Quiet, New; all calls of both.
-/
import Derived.Test.YtplcocifndpplaaCm
namespace Go.Proofs.Ytplcocifndpplaa
open Go Go.Ideal

theorem run40 {K : Kont} {fuel : Nat} (hD : Doc K) (hB56 : ∀ {w : World} {x : Nat} {r : Rd} {s : CS} {B C : Nat}, RefAt w x r s C → s.ok B → B ≤ 1000 → C < 20000 → ∀ {i : Nat}, i < s.N → ∀ sp, (K.enter 56 #[ptr x, i64 i, i64 sp] w).all fun y => y.1 = i64 (behindA s i sp) ∧ y.2 = w) (hf : 2000 ≤ fuel)
    {w : World} {x : Nat} {r : Rd} {s : CS} {B C : Nat} (hp : RefAt w x r s C) (hs : s.ok B) (hB : B ≤ 1000) (hC : C < 20000) (sp : Int) :
    wpGFn Try.prog K fuel 40 g40 #[ptr x, i64 sp] w fun v w' => v = .bool (quietA s s.N sp) ∧ w' = w := by
  rw [gfn_start]
  have hN := hs.n
  have hl := fun w' => hp.row.lenS (w' := w')
  simp only [List.length_map, List.length_range] at hl
  simp -implicitDefEqProofs [g40]
  refine loop_go (fun k ρ w' => ∃ q : Nat, k = s.N - q ∧ q ≤ s.N ∧ w' = w ∧ ρ 0 = ptr x ∧ ρ 1 = i64 sp ∧ ρ 5 = i64 q ∧ quietA s q sp = true) ?_ (i := s.N) ?_ (by show s.N < fuel; omega)
  · rintro k ρ w' ⟨q, rfl, hq, rfl, e0, e1, e5, hqu⟩
    have w1 : IntKind.i64.wrap ((q : Int) + 1) = (q : Int) + 1 := by rw [IntKind.wrap_i64]; omega
    by_cases hqN : q < s.N
    · have hql' : (q : Int) < s.N := by omega
      obtain ⟨b, o, cap, cs, hv, hc, hsz, hat⟩ := hp.row.ptr (i := q) (by simpa using hqN)
      have hv2 : r.bv = .slice (some ⟨b, o, none⟩) s.N cap := by simpa using hv
      simp only [List.getElem_map, List.getElem_range] at hat
      obtain ⟨lv, hlv, hln, _⟩ := hp.buf q hqN
      have hll := hs.ll hqN
      have hlenS := fun w' => hln.len (w' := w')
      have hsn := hs.seen q sp hqN
      simp -implicitDefEqProofs [e0, e5, hp.cell, hl, hql']
      refine loop_go (fun k ρ w'' => ∃ t : Nat, k = (s.L q).length - t ∧ t ≤ (s.L q).length ∧ w'' = w' ∧ ρ 0 = ptr x ∧ ρ 1 = i64 sp ∧ ρ 5 = i64 q ∧ ρ 6 = i64 t ∧ ∀ y ∈ (s.L q).take t, y.s = sp → s.seen q sp = s.time sp) ?_ (i := (s.L q).length) ?_ (by show (s.L q).length < fuel; omega)
      · rintro k2 ρ2 w2 ⟨t, rfl, ht, rfl, e0, e1, e5, e6, hno⟩
        have w2' : IntKind.i64.wrap ((t : Int) + 1) = (t : Int) + 1 := by rw [IntKind.wrap_i64]; omega
        by_cases htl : t < (s.L q).length
        · have htl' : (t : Int) < (s.L q).length := by omega
          obtain ⟨lb, lo, lcap, lc, hve, hlc, hlsz, hext⟩ := hln.line htl
          have hl0 : lc[lo + t * 5]? = some (i64 (s.L q)[t].s) := by
            have h0 : (lc.extract (lo + t * 5) (lo + t * 5 + 5))[0]? = some (i64 (s.L q)[t].s) := by rw [hext]; rfl
            rw [Array.getElem?_extract, if_pos (by omega)] at h0
            exact h0
          have hnext : ∀ y ∈ (s.L q).take (t + 1), (y ∈ (s.L q).take t) ∨ y = (s.L q)[t] := fun y hy => by
            rw [List.take_succ_eq_append_getElem htl, List.mem_append, List.mem_singleton] at hy; exact hy
          by_cases hsp : (s.L q)[t].s = sp
          · simp -implicitDefEqProofs [e0, e1, e5, e6, hp.cell, hv2, hc, hat, hql', hqN, hlv, hve, hlc, hl0, htl', htl, hsp]
            refine valA_of (hB56 hp hs hB hC hqN sp) (fun u4 w4 hq4 => ?_)
            obtain ⟨hu, hw⟩ := hq4
            simp only at hu hw
            subst hu hw
            by_cases heq : s.seen q sp = s.time sp
            · have hz : behindA s q sp = 0 := by unfold behindA; omega
              simp -implicitDefEqProofs [e0, e1, e5, e6, hz, w2']
              refine ⟨(s.L q).length - (t + 1), by omega, t + 1, rfl, htl, by omega, fun y hy hys => heq⟩
            · have hz : ¬ behindA s q sp = 0 := by unfold behindA; omega
              simp -implicitDefEqProofs [hz]
              exact (quiet_false hqN heq (List.getElem_mem htl) hsp)
          · simp -implicitDefEqProofs [e0, e1, e5, e6, hp.cell, hv2, hc, hat, hql', hqN, hlv, hve, hlc, hl0, htl', htl, hsp, w2']
            refine ⟨(s.L q).length - (t + 1), by omega, t + 1, rfl, htl, by omega, fun y hy hys => ?_⟩
            rcases hnext y hy with h | h
            · exact hno y h hys
            · rw [h] at hys; exact absurd hys hsp
        · have hre : t = (s.L q).length := by omega
          rw [hre, List.take_length] at hno
          rw [hre] at e6
          simp -implicitDefEqProofs [e0, e1, e5, e6, hp.cell, hv2, hc, hat, hql', hqN, hlv, hlenS, w1]
          refine ⟨s.N - (q + 1), by omega, q + 1, rfl, hqN, by omega, ?_⟩
          rw [quiet_step, hqu, Bool.true_and]
          by_cases heq : s.seen q sp = s.time sp
          · simp [heq]
          · simp only [heq, decide_false, Bool.false_or, List.all_eq_true, Bool.not_eq_true', decide_eq_false_iff_not]
            exact fun y hy hys => heq (hno y hy hys)
      · exact ⟨0, rfl, Nat.zero_le _, rfl, by simp [e0], by simp [e1], by simp [e5], by simp, by simp⟩
    · have : q = s.N := by omega
      rw [this] at hqu e5
      simp -implicitDefEqProofs [e0, e5, hp.cell, hl, hqu]
  · exact ⟨0, rfl, Nat.zero_le _, rfl, by simp, by simp, by simp, by simp [quietA]⟩

theorem RefAt.grow {w w4 : World} {x : Nat} {r : Rd} {q : Nat} {size : Int} {C : Nat} (h : RefAt w x r (newA q size) C) {b' : Nat} {v' : Value} (hk : Keeps w w4 (fun b => b = x ∨ blkOf r.bv = some b)) (hb : Buf w4 38 b' size []) (hf : ∀ j, foot w4 b' j → w.heap.size ≤ j)
    (hc : cellsOf? w4 x = some (#[v', r.av, r.sv], 114, (0, 0))) (hr : RowE (EP 26) w4 v' ((List.range q).map r.pb ++ [b'])) : RefAt w4 x { r with bv := v', pb := updP r.pb q b' } (newA (q + 1) size) C := by
  have hx : ∀ {b cs t}, cellsOf? w b = some (cs, t, (0, 0)) → t ≠ 114 → t ≠ 26 → ¬ (b = x ∨ blkOf r.bv = some b) := by
    intro b cs t hb h1 h2 hh
    rcases hh with rfl | hh
    · rw [h.cell] at hb; simp at hb; exact h1 hb.2.symm
    · obtain ⟨_, hc2⟩ := h.row.tag hh
      rw [hc2] at hb; simp [EP] at hb; exact h2 hb.2.symm
  have hbuf : ∀ i, i < q → Buf w4 38 (r.pb i) size [] ∧ ∀ b, foot w4 (r.pb i) b ↔ foot w (r.pb i) b := fun i hi => (h.buf i hi).keep hk (fun j hj => by
    obtain ⟨cs, t, h1, h2⟩ := (h.buf i hi).tag hj
    exact hx h1 (by rintro rfl; simp at h2) (by rintro rfl; simp at h2))
  have old : ∀ i, i < q + 1 → i = q ∨ (i ≠ q ∧ i < q) := fun i hi => by omega
  refine ⟨hc, ?_, fun i hi => ?_, ?_, ?_, fun i j hi hj hne b h1 h2 => ?_⟩
  · show RowE (EP 26) w4 v' ((List.range (q + 1)).map (updP r.pb q b'))
    rw [range_upd]; exact hr
  · rcases old i hi with rfl | ⟨hne, hl⟩
    · simp only [updP_at]; exact hb
    · simp only [updP_ne _ _ hne]; exact (hbuf i hl).1
  · obtain ⟨xs, g1, g2⟩ := h.all
    exact ⟨xs, g1.keep hk fun b hb => by obtain ⟨_, hc⟩ := g1.tag hb; exact hx hc (by simp [EA]) (by simp [EA]), g2⟩
  · obtain ⟨xs, g1, g2⟩ := h.saw
    exact ⟨xs, g1.keep hk fun b hb => by obtain ⟨_, hc⟩ := g1.tag hb; exact hx hc (by simp [EW]) (by simp [EW]), g2⟩
  · have lt : ∀ i, i < q → ∀ b, foot w (r.pb i) b → b < w.heap.size := fun i hi b hf => (h.buf i hi).foot_lt hf
    rcases old i hi with rfl | ⟨hn1, hl⟩ <;> rcases old j hj with rfl | ⟨hn2, hl'⟩
    · exact hne rfl
    · simp only [updP_at, updP_ne _ _ hn2] at h1 h2
      have := hf b h1; have := lt j hl' b (((hbuf j hl').2 b).1 h2); omega
    · simp only [updP_at, updP_ne _ _ hn1] at h1 h2
      have := hf b h2; have := lt i hl b (((hbuf i hl).2 b).1 h1); omega
    · simp only [updP_ne _ _ hn1, updP_ne _ _ hn2] at h1 h2
      exact h.apart i j hl hl' hne b (((hbuf i hl).2 b).1 h1) (((hbuf j hl').2 b).1 h2)

theorem run53 {K : Kont} {fuel : Nat} (hfu : 2000 ≤ fuel) {w : World} {n : Nat} {size : Int} (hn : 1 ≤ n ∧ n ≤ 8) (hsz : 1 ≤ size ∧ size ≤ 64) :
    wpGFn Try.prog K fuel 53 g53 #[i64 n, i64 size] w fun v w' => ∃ x r, v = .tuple #[ptr x, i64 0] ∧ RefAt w' x r (newA n size) 0 ∧ Keeps w w' (fun _ => False) ∧ ∀ i, i < n → ∀ b, foot w' (r.pb i) b → w.heap.size ≤ b := by
  rw [gfn_start]
  have h1 : ¬ (n : Int) < 1 := by omega
  have h2 : ¬ (8 : Int) < n := by omega
  have h3 : ¬ size < 1 := by omega
  have h4 : ¬ 64 < size := by omega
  obtain ⟨W, hW⟩ : ∃ W, W = World.push w (.cells #[.slice none 0 0, .slice none 0 0, .slice none 0 0] 114) := ⟨_, rfl⟩
  have kW : Keeps w W (fun _ => False) := by rw [hW]; exact Keeps.push _ _ _
  have cW : cellsOf? W w.heap.size = some (#[.slice none 0 0, .slice none 0 0, .slice none 0 0], 114, (0, 0)) := by rw [hW]; simp
  have hp0 : RefAt W w.heap.size ⟨.slice none 0 0, .slice none 0 0, .slice none 0 0, fun _ => 0⟩ (newA 0 size) 0 := by
    have hz : ∀ i, ¬ i < (newA 0 size).N := fun i => Nat.not_lt_zero i
    exact ⟨cW, RowE.nil _, fun i hi => absurd hi (hz i), ⟨[], RowE.nil _, rfl, fun k h => absurd h (Nat.not_lt_zero k)⟩, ⟨[], RowE.nil _, Nat.le_refl _, fun i sp => rfl⟩, fun i j hi => absurd hi (hz i)⟩
  simp -implicitDefEqProofs [g53, h1, h2, h3, h4, fillS, Instr.fill]
  rw [← hW]
  refine loop_go (fun k ρ w' => ∃ (q : Nat) (r : Rd), k = n - q ∧ q ≤ n ∧ ρ 0 = i64 n ∧ ρ 1 = i64 size ∧ ρ 6 = ptr w.heap.size ∧ ρ 7 = i64 q ∧ RefAt w' w.heap.size r (newA q size) 0 ∧ Keeps w w' (fun _ => False) ∧ (∀ i, i < q → ∀ b, foot w' (r.pb i) b → w.heap.size ≤ b) ∧ ∀ b, blkOf r.bv = some b → w.heap.size ≤ b) ?_ (i := n) ?_ (by show n < fuel; omega)
  · rintro k ρ w' ⟨q, r, rfl, hq, e0, e1, e6, e7, hp', hk, hft, hvb⟩
    have w1 : IntKind.i64.wrap ((q : Int) + 1) = (q : Int) + 1 := by rw [IntKind.wrap_i64]; omega
    by_cases hqN : q < n
    · have hql' : (q : Int) < n := by omega
      obtain ⟨W3, hW3⟩ : ∃ W3, W3 = World.push (World.push w' (.cells #[i64 size, .slice none 0 0] 38)) (.cells #[ptr w'.heap.size] 26) := ⟨_, rfl⟩
      have k3 : Keeps w' W3 (fun _ => False) := by rw [hW3]; exact (Keeps.push _ _ _).trans (Keeps.push _ _ _) (fun _ _ h => h) (fun _ _ h => h)
      have hc2 := hp'.cell
      have n3 : ¬ w.heap.size = w'.heap.size := Nat.ne_of_lt (cells_lt hc2)
      have n4 : ¬ w.heap.size = w'.heap.size + 1 := by have := cells_lt hc2; omega
      have c3 : cellsOf? W3 w'.heap.size = some (#[i64 size, .slice none 0 0], 38, (0, 0)) := by rw [hW3]; simp
      have s3 : cellsOf? W3 (w'.heap.size + 1) = some (#[ptr w'.heap.size], 26, (0, 0)) := by rw [hW3]; simp
      have hr3 := hp'.row.keep k3 (fun _ _ h => h)
      have hc3 := k3.cells hc2 (fun h => h)
      have z3 : W3.heap.size = w'.heap.size + 2 := by rw [hW3]; simp
      simp -implicitDefEqProofs [e0, e1, e6, e7, hql', hc2, fillS, Instr.fill, row_pt, n3, n4]
      rw [← hW3]
      refine appE (E := EP 26) (by_ := 8) hr3 (src_pt s3) (by simp [newA]; omega) (by decide) (fun v4 w4 hr4 hk4 _ hb4 => ?_)
      have hb4 := hb4 (by simp)
      have hb4s : ∀ b, blkOf v4 = some b → b = W3.heap.size := fun b hb => by rw [hb4] at hb; exact (Option.some.inj hb).symm
      have nv : ∀ b, blkOf r.bv = some b → ¬ b = w.heap.size := fun b hb e => by
        obtain ⟨_, h⟩ := hp'.row.tag hb
        rw [e, hp'.cell] at h; simp [EP] at h
      have hc4 := hk4.cells hc3 (fun h => nv _ h rfl)
      have hlt4 := cells_lt hc4
      have one4 := hr4.one
      have cel4 := hr4.cells1
      have ks : Keeps w4 (World.set w4 w.heap.size (.cells #[v4, r.av, r.sv] 114)) (fun b => b = w.heap.size) := Keeps.set _ _ _ fun _ => rfl
      have k34 : Keeps W3 (World.set w4 w.heap.size (.cells #[v4, r.av, r.sv] 114)) (fun b => b = w.heap.size ∨ blkOf r.bv = some b) := hk4.trans ks (fun _ _ h => .inr h) (fun _ _ h => .inl h)
      have kfin : Keeps w' (World.set w4 w.heap.size (.cells #[v4, r.av, r.sv] 114)) (fun b => b = w.heap.size ∨ blkOf r.bv = some b) := k3.trans k34 (fun _ _ h => h.elim) (fun _ _ h => h)
      have big : ∀ b, (b = w.heap.size ∨ blkOf r.bv = some b) → b < w'.heap.size := fun b h => by
        rcases h with rfl | h
        · exact cells_lt hp'.cell
        · exact hp'.row.block_lt h
      have hbc : cellsOf? (World.set w4 w.heap.size (.cells #[v4, r.av, r.sv] 114)) w'.heap.size = some (#[i64 size, .slice none 0 0], 38, (0, 0)) := k34.cells c3 (fun h => by have := big _ h; omega)
      have hbuf : Buf (World.set w4 w.heap.size (.cells #[v4, r.av, r.sv] 114)) 38 w'.heap.size size [] := ⟨.slice none 0 0, hbc, .inl ⟨rfl, rfl⟩, fun j h => by cases h⟩
      have hnew : ∀ j, foot (World.set w4 w.heap.size (.cells #[v4, r.av, r.sv] 114)) w'.heap.size j → w'.heap.size ≤ j := fun j hj => by
        rcases hj with rfl | ⟨s, u, e, fz, hc, hu⟩
        · exact Nat.le_refl _
        · rw [hbc] at hc
          simp at hc
          obtain ⟨⟨_, rfl⟩, _⟩ := hc
          cases hu
      have hgrow := hp'.grow (b' := w'.heap.size) (v' := v4) kfin hbuf hnew (by simp [hlt4]) (hr4.keep ks (fun b hb e => by have := hb4s b hb; have := cells_lt hc3; omega))
      simp -implicitDefEqProofs [e0, e1, e6, e7, hc4, hlt4, one4, cel4, w1]
      refine ⟨n - (q + 1), by omega, q + 1, rfl, hqN, by omega, _, hgrow, hk.trans kfin (fun _ _ h => h) (fun j hj h => ?_), fun i hi b hb => ?_, fun b hb => ?_⟩
      · rcases h with h | h
        · omega
        · have := hvb j h; omega
      · by_cases he : i = q
        · subst he
          simp only [updP_at] at hb
          have := hnew b hb; have := hk.1; omega
        · simp only [updP_ne _ _ he] at hb
          have hbi := (hp'.buf i (show i < q by omega)).keep kfin (fun j hj h => by
            obtain ⟨cs, t, g1, g2⟩ := (hp'.buf i (show i < q by omega)).tag hj
            rcases h with h | h
            · rw [h, hp'.cell] at g1; simp at g1; rw [← g1.2] at g2; simp at g2
            · obtain ⟨_, g3⟩ := hp'.row.tag h
              rw [g3] at g1; simp [EP] at g1; rw [← g1.2] at g2; simp at g2)
          exact hft i (by omega) b ((hbi.2 b).1 hb)
      · simp only at hb
        have := hb4s b hb; have := hk.1; omega
    · have : q = n := by omega
      subst this
      simp -implicitDefEqProofs [e0, e6, e7]
      exact ⟨r, hp', hk, hft⟩
  · exact ⟨0, _, rfl, Nat.zero_le _, by simp, by simp, by simp, by simp, hp0, kW, fun i hi => absurd hi (Nat.not_lt_zero i), fun b hb => by cases hb⟩
end Go.Proofs.Ytplcocifndpplaa
