/-
  Rmap: the document's spots: how they lie; equality, less, Same, Numbers; Spots, Frames, Del, Add.
-/
import Derived.Test.YtcfhhfdkecbphaaRk
namespace Go.Proofs.Ytcfhhfdkecbphaa
open Go Go.Ideal

theorem eq27 (n : Nat) (c d : Sp) (w : World) : (Op.equalIn (n + 2) 27 (spV c) (spV d)).run Try.prog w = .ok (decide (c = d)) w := by
  have u3 := Try.underlying3
  have hS : Try.prog.underlying 27 = some (.struct (Try.prog.fieldsOf 27)) := by kernel_rfl
  have hp : Try.prog.stoodInHeld 27 = false := by kernel_rfl
  rw [show n + 2 = (n + 1) + 1 from rfl, run_equalIn_agg w (n + 1) 27 _ _ hS hp]
  simp only [Program.fieldsOf, Try.underlying27]
  obtain ⟨s, p⟩ := c
  obtain ⟨s', p'⟩ := d
  go_simp
  by_cases h1 : s = s' <;> by_cases h2 : p = p' <;> simp [h1, h2]
theorem sp_fit (op : BinOp) (c d : Sp) (ho : op = .eql ∨ op = .neq) : binFit Try.prog op 27 (spV c) (spV d) = true := by
  have he : eqTy Try.prog 5 27 = true := by kernel_rfl
  have hg : ∀ c : Sp, groundD 4 (spV c) = true := fun c => by simp [groundD]
  rcases ho with rfl | rfl <;> simp [binFit, he, eqFit, hg]
theorem sp_ne {o1 o2 : Operand} {a b c d : Int} {w : World} : binS Try.prog .neq 27 o1 o2 (.agg #[.int .i64 a, .int .i64 b]) (.agg #[.int .i64 c, .int .i64 d]) w = .ret (.bool (!decide ((a, b) = (c, d))), w) := by
  have hm : Try.prog.eqGuardType Try.prog.depth 27 = false := by kernel_rfl
  have h := eq27 9998 (a, b) (c, d) w
  unfold binS
  simp only [sp_fit .neq (a, b) (c, d) (.inr rfl), if_true]
  simp only [Sem.run_bind, run_eqGuard_agg w _ _ _ _ _ _ hm, Result.andThen, run_neq_struct, h, ofRun]

abbrev onV (o : On) : Value := .agg #[.int .i64 o.1, .int .i64 o.2.1, .int .i64 o.2.2]
theorem eq62 (c d : On) (w : World) : (Op.equalIn 10000 62 (onV c) (onV d)).run Try.prog w = .ok (decide (c = d)) w := by
  have u3 := Try.underlying3
  have hS : Try.prog.underlying 62 = some (.struct (Try.prog.fieldsOf 62)) := by kernel_rfl
  have hp : Try.prog.stoodInHeld 62 = false := by kernel_rfl
  rw [show (10000 : Nat) = 9999 + 1 from rfl, run_equalIn_agg w 9999 62 _ _ hS hp]
  simp only [Program.fieldsOf, Try.underlying62]
  obtain ⟨f, s, p⟩ := c
  obtain ⟨f', s', p'⟩ := d
  go_simp
  by_cases h1 : f = f' <;> by_cases h2 : s = s' <;> by_cases h3 : p = p' <;> simp [h1, h2, h3]
theorem on_fit (c d : On) : binFit Try.prog .eql 62 (onV c) (onV d) = true := by
  have he : eqTy Try.prog 5 62 = true := by kernel_rfl
  have hg : ∀ c : On, groundD 4 (onV c) = true := fun c => by simp [groundD]
  simp [binFit, he, eqFit, hg]
theorem on_eq {o1 o2 : Operand} {a b c d e f : Int} {w : World} : binS Try.prog .eql 62 o1 o2 (.agg #[.int .i64 a, .int .i64 b, .int .i64 c]) (.agg #[.int .i64 d, .int .i64 e, .int .i64 f]) w = .ret (.bool (decide ((a, b, c) = (d, e, f))), w) := by
  have hm : Try.prog.eqGuardType Try.prog.depth 62 = false := by kernel_rfl
  have h := eq62 (a, b, c) (d, e, f) w
  unfold binS
  simp only [on_fit (a, b, c) (d, e, f), if_true]
  simp only [Sem.run_bind, run_eqGuard_agg w _ _ _ _ _ _ hm, Result.andThen, run_eql_struct, h, ofRun]

/-! ### How they lie -/
def EOn : En On := ⟨3, 62, fun o => [.int .i64 o.1, .int .i64 o.2.1, .int .i64 o.2.2], fun _ => rfl, fun _ v hv => by simp at hv; rcases hv with rfl | rfl | rfl <;> rfl, by decide⟩
theorem row62 (o : On) (w : World) : rowS 62 3 1 #[.int .i64 0, .int .i64 0, .int .i64 0] [(0, .agg #[.int .i64 o.1, .int .i64 o.2.1, .int .i64 o.2.2])] w = .ret (.slice (some ⟨w.heap.size, 0, none⟩) 1 1, World.push w (.cells #[.int .i64 o.1, .int .i64 o.2.1, .int .i64 o.2.2] 62)) := rfl
theorem srcOn {w : World} {r : Nat} {o : On} (h : cellsOf? w r = some (#[.int .i64 o.1, .int .i64 o.2.1, .int .i64 o.2.2], 62, (0, 0))) : SrcE EOn w (.slice (some ⟨r, 0, none⟩) 1 1) [o] :=
  .inr ⟨r, 0, 1, _, 62, (0, 0), rfl, h, by simp [EOn], by simp [EOn, flat]⟩

theorem rowOn {w : World} {v : Value} {L : List On} (h : RowE EOn w v L) {i : Nat} (hi : i < L.length) : ∃ b o cap c, v = .slice (some ⟨b, o, none⟩) L.length cap ∧ cellsOf? w b = some (c, 62, (0, 0)) ∧ o + i * 3 + 3 ≤ c.size ∧
    c.extract (o + i * 3) (o + i * 3 + 3) = #[.int .i64 L[i].1, .int .i64 L[i].2.1, .int .i64 L[i].2.2] ∧ c[o + i * 3]? = some (.int .i64 L[i].1) ∧ c.extract (o + i * 3 + 1) (o + i * 3 + 3) = #[.int .i64 L[i].2.1, .int .i64 L[i].2.2] := by
  obtain ⟨b, o, cap, c, h1, h2, h3, h4, h5⟩ := h.at hi
  simp only [EOn] at h2 h3 h4 h5
  refine ⟨b, o, cap, c, h1, h2, h3, h4, h5 0 (by omega), ?_⟩
  apply Array.ext_getElem?
  intro j
  rw [Array.getElem?_extract]
  by_cases h : j < 2
  · rw [if_pos (by omega), Nat.add_assoc (o + i * 3) 1 j, h5 (1 + j) (by omega)]
    match j, h with
    | 0, _ => rfl
    | 1, _ => rfl
  · rw [if_neg (by omega), Array.getElem?_eq_none (by simp; omega)]
theorem rowSp {w : World} {v : Value} {l : List Sp} (h : RowE ESp w v l) {i : Nat} (hi : i < l.length) : ∃ b o cap c, v = .slice (some ⟨b, o, none⟩) l.length cap ∧ cellsOf? w b = some (c, 27, (0, 0)) ∧ o + i * 2 + 2 ≤ c.size ∧
    c.extract (o + i * 2) (o + i * 2 + 2) = #[.int .i64 l[i].1, .int .i64 l[i].2] := by
  obtain ⟨b, o, cap, c, h1, h2, h3, h4, _⟩ := h.at hi
  exact ⟨b, o, cap, c, h1, h2, h3, h4⟩

/-- A row that is being built. -/
structure Out {α : Type} (E : En α) (w w' : World) (u : Value) (xs : List α) : Prop where
  row : RowE E w' u xs
  k : Keeps w w' (fun _ => False)
  new : ∀ j, blkOf u = some j → w.heap.size ≤ j
theorem Out.keep {α : Type} {E : En α} {w w' w2 : World} {u : Value} {xs : List α} (h : Out E w w' u xs) (hk : Keeps w' w2 (fun _ => False)) : Out E w w2 u xs :=
  ⟨h.row.keep hk (fun _ _ h => h), h.k.trans hk (fun _ _ h => h) (fun _ _ h => h), h.new⟩
theorem Out.app {α : Type} {E : En α} {w w' : World} {u s : Value} {xs ms : List α} {by_ : Nat} {Q : Value × World → Prop} (h : Out E w w' u xs) (hs : SrcE E w' s ms) (hroom : xs.length + ms.length ≤ 1000000) (hby : by_ ≤ 1000000)
    (hq : ∀ v' w2, Out E w w2 v' (xs ++ ms) → Q (v', w2)) : (appendS E.te E.es by_ u s w').all Q :=
  appE h.row hs hroom hby fun v' w2 hr hk he hn => hq v' w2 ⟨hr, h.k.trans hk (fun _ _ h => h) (fun j hj hb => by have := h.new j hb; omega), fun j hj => by
    by_cases hm : ms = []
    · rw [(he hm).1] at hj; exact h.new j hj
    · rw [hn hm] at hj; simp at hj; have := h.k.1; omega⟩
theorem Out.nil {α : Type} (E : En α) (w : World) : Out E w w (.slice none 0 0) [] := ⟨RowE.nil w, Keeps.refl _ _, fun j h => by cases h⟩

def DocAt (w : World) (x : Nat) (L : List On) : Prop := ∃ v, cellsOf? w x = some (#[v], 60, (0, 0)) ∧ RowE EOn w v L
theorem DocAt.keep {w w' : World} {x : Nat} {L : List On} (h : DocAt w x L) (hk : Keeps w w' (fun _ => False)) : DocAt w' x L := by
  obtain ⟨v, h1, h2⟩ := h
  exact ⟨v, hk.cells h1 (fun h => h), h2.keep hk (fun _ _ h => h)⟩
theorem DocAt.keepT {w w' : World} {x : Nat} {L : List On} (h : DocAt w x L) (hk : KeepT w w') : DocAt w' x L := by
  obtain ⟨v, h1, h2⟩ := h
  refine ⟨v, hk.2 _ _ _ _ h1 (fun _ => by decide), ?_⟩
  rcases h2 with h2 | ⟨b, o, cap, c, hv, hc, h3⟩
  · exact .inl h2
  · exact .inr ⟨b, o, cap, c, hv, hk.2 _ _ _ _ hc (fun _ => by decide), h3⟩

/-! ### Same, Numbers, less -/
theorem run17 {K : Kont} {fuel : Nat} {w : World} {u v : Value} {l m : List Sp} (hu : RowE ESp w u l) (hv : RowE ESp w v m) (hl : l.length ≤ 1000000) (hf : 2000000 ≤ fuel) : wpGFn Try.prog K fuel 17 g17 #[u, v] w fun z w' => z = .bool (decide (l = m)) ∧ w' = w := by
  rw [gfn_start]
  have hlu := fun w' => hu.lenS (w' := w')
  have hlv := fun w' => hv.lenS (w' := w')
  by_cases hlen : l.length = m.length
  · have hlen' : ((l.length : Int) = m.length) := by omega
    simp -implicitDefEqProofs [g17, hlu, hlv, hlen']
    refine loop_go (fun i ρ w' => ∃ q : Nat, i = l.length - q ∧ q ≤ l.length ∧ l.take q = m.take q ∧ ρ 0 = u ∧ ρ 1 = v ∧ ρ 5 = n64 q ∧ w' = w) ?_ (i := l.length) ?_ (by show l.length < fuel; omega)
    · rintro i ρ w' ⟨q, rfl, hq, ht, e0, e1, e5, rfl⟩
      have x1 : IntKind.i64.wrap ((q : Int) + 1) = (q : Int) + 1 := by rw [IntKind.wrap_i64]; omega
      by_cases h : q < l.length
      · have hm : q < m.length := by omega
        have h' : (q : Int) < m.length := by omega
        obtain ⟨b1, o1, p1, c1, hve1, hc1, hs1, hx1⟩ := rowSp hu h
        obtain ⟨b2, o2, p2, c2, hve2, hc2, hs2, hx2⟩ := rowSp hv hm
        by_cases he : l[q] = m[q]
        · have he1 : l[q].1 = m[q].1 := by rw [he]
          have he2 : l[q].2 = m[q].2 := by rw [he]
          simp -implicitDefEqProofs [e0, e1, e5, h, hm, h', hlen, hve1, hve2, hc1, hc2, hs1, hs2, hx1, hx2, sp_ne, he1, he2, x1]
          refine ⟨m.length - (q + 1), by omega, q + 1, rfl, by omega, ?_, by omega⟩
          rw [List.take_succ_eq_append_getElem h, List.take_succ_eq_append_getElem hm, ht, he]
        · have he' : ¬ (l[q].1 = m[q].1 ∧ l[q].2 = m[q].2) := fun h => he (Prod.ext h.1 h.2)
          have hne : ¬ l = m := fun e => he (by subst e; rfl)
          simp -implicitDefEqProofs [e0, e1, e5, h, hm, h', hlen, hve1, hve2, hc1, hc2, hs1, hs2, hx1, hx2, sp_ne, he', hne]
      · have hq2 : q = l.length := by omega
        subst hq2
        have hlm : l = m := by rw [List.take_length, hlen, List.take_length] at ht; exact ht
        simp -implicitDefEqProofs [e0, e5, hlu, hlm]
    · exact ⟨0, by simp, Nat.zero_le _, by simp, by simp, by simp, by simp, rfl⟩
  · have hlen' : ¬ ((l.length : Int) = m.length) := by omega
    have hne : ¬ l = m := fun e => hlen (by rw [e])
    simp -implicitDefEqProofs [g17, hlu, hlv, hlen, hlen', hne]

theorem run18 {K : Kont} {fuel : Nat} {w : World} {u v : Value} {l m : List Int} (hu : RowE (EInt 3) w u l) (hv : RowE (EInt 3) w v m) (hl : l.length ≤ 1000000) (hf : 2000000 ≤ fuel) : wpGFn Try.prog K fuel 18 g18 #[u, v] w fun z w' => z = .bool (decide (l = m)) ∧ w' = w := by
  rw [gfn_start]
  have hlu := fun w' => hu.lenS (w' := w')
  have hlv := fun w' => hv.lenS (w' := w')
  by_cases hlen : l.length = m.length
  · have hlen' : ((l.length : Int) = m.length) := by omega
    simp -implicitDefEqProofs [g18, hlu, hlv, hlen']
    refine loop_go (fun i ρ w' => ∃ q : Nat, i = l.length - q ∧ q ≤ l.length ∧ l.take q = m.take q ∧ ρ 0 = u ∧ ρ 1 = v ∧ ρ 5 = n64 q ∧ w' = w) ?_ (i := l.length) ?_ (by show l.length < fuel; omega)
    · rintro i ρ w' ⟨q, rfl, hq, ht, e0, e1, e5, rfl⟩
      have x1 : IntKind.i64.wrap ((q : Int) + 1) = (q : Int) + 1 := by rw [IntKind.wrap_i64]; omega
      by_cases h : q < l.length
      · have hm : q < m.length := by omega
        have h' : (q : Int) < m.length := by omega
        obtain ⟨b1, o1, p1, c1, hve1, hc1, hs1, hx1⟩ := hu.int h
        obtain ⟨b2, o2, p2, c2, hve2, hc2, hs2, hx2⟩ := hv.int hm
        have ha1 : ∀ h, c1[o1 + q]'h = .int .i64 l[q] := fun h => by rw [Array.getElem?_eq_getElem h] at hx1; simpa using hx1
        have ha2 : ∀ h, c2[o2 + q]'h = .int .i64 m[q] := fun h => by rw [Array.getElem?_eq_getElem h] at hx2; simpa using hx2
        by_cases he : l[q] = m[q]
        · simp -implicitDefEqProofs [e0, e1, e5, h, hm, h', hlen, hve1, hve2, hc1, hc2, hs1, hs2, ha1, ha2, he, x1]
          refine ⟨m.length - (q + 1), by omega, q + 1, rfl, by omega, ?_, by omega⟩
          rw [List.take_succ_eq_append_getElem h, List.take_succ_eq_append_getElem hm, ht, he]
        · have hne : ¬ l = m := fun e => he (by subst e; rfl)
          simp -implicitDefEqProofs [e0, e1, e5, h, hm, h', hlen, hve1, hve2, hc1, hc2, hs1, hs2, ha1, ha2, he, hne]
      · have hq2 : q = l.length := by omega
        subst hq2
        have hlm : l = m := by rw [List.take_length, hlen, List.take_length] at ht; exact ht
        simp -implicitDefEqProofs [e0, e5, hlu, hlm]
    · exact ⟨0, by simp, Nat.zero_le _, by simp, by simp, by simp, by simp, rfl⟩
  · have hlen' : ¬ ((l.length : Int) = m.length) := by omega
    have hne : ¬ l = m := fun e => hlen (by rw [e])
    simp -implicitDefEqProofs [g18, hlu, hlv, hlen, hlen', hne]

theorem run35 {K : Kont} {fuel : Nat} {w : World} (a b : On) : wpGFn Try.prog K fuel 35 g35 #[onV a, onV b] w fun z w' => z = .bool (decide (ltO a b)) ∧ Keeps w w' (fun _ => False) := by
  rw [gfn_start]
  obtain ⟨a1, a2, a3⟩ := a; obtain ⟨b1, b2, b3⟩ := b
  have hk : Keeps w (World.push (World.push w (.cells #[.int .i64 a1, .int .i64 a2, .int .i64 a3] 62)) (.cells #[.int .i64 b1, .int .i64 b2, .int .i64 b3] 62)) (fun _ => False) := (Keeps.push _ _ (fun _ => False)).trans (Keeps.push _ _ (fun _ => False)) (fun _ _ h => h) (fun _ _ h => h)
  by_cases h1 : a1 = b1
  · subst h1
    by_cases h2 : a2 = b2
    · subst h2
      simp -implicitDefEqProofs [g35, ltO, ltS, Int.lt_irrefl]
      exact hk
    · simp -implicitDefEqProofs [g35, ltO, ltS, Int.lt_irrefl, h2]
      exact hk
  · simp -implicitDefEqProofs [g35, ltO, ltS, h1]
    exact hk
end Go.Proofs.Ytcfhhfdkecbphaa
