/-
  Processors: both, and a call of both.
-/
import Derived.Test.YtplcocifndpplaaCn
namespace Go.Proofs.Ytplcocifndpplaa
open Go Go.Ideal

structure Cps (K : Kont) : Prop where
  a : Api K
  new : ∀ {w : World} {n : Nat} {size : Int}, 1 ≤ n ∧ n ≤ 8 → 1 ≤ size ∧ size ≤ 64 → (K.enter 27 #[i64 n, i64 size] w).all fun z => ∃ c a, z.1 = .tuple #[ptr c, i64 0] ∧ CpuAt z.2 c a (newA n size) ∧ Keeps w z.2 (fun _ => False) ∧ ∀ i, i < n → ∀ b, foot z.2 (a.pb i) b → w.heap.size ≤ b
  put : ∀ {w : World} {c : Nat} {a : Ad} {s : CS} {B : Nat}, CpuAt w c a s → s.ok B → B ≤ 1000 → ∀ (n : Int) (x : Line), (K.enter 29 #[ptr c, i64 n, .agg x.cells] w).all fun z => z.1 = i64 (putE s n x) ∧ CpuAt z.2 c a (if isN s n then putA s n.toNat x else s) ∧ MvC w z.2 s a
  look : ∀ {w : World} {c : Nat} {a : Ad} {s : CS} {B : Nat}, CpuAt w c a s → s.ok B → B ≤ 1000 → ∀ n sp p : Int, (K.enter 30 #[ptr c, i64 n, i64 sp, i64 p] w).all fun z => (isN s n → z.1 = lookV (lookL ((catchA s n.toNat sp).L n.toNat) sp p) ∧ CpuAt z.2 c a (catchA s n.toNat sp)) ∧ (¬ isN s n → z.1 = lookV none ∧ CpuAt z.2 c a s) ∧ MvC w z.2 s a
  flush : ∀ {w : World} {c : Nat} {a : Ad} {s : CS} {B : Nat}, CpuAt w c a s → s.ok B → B ≤ 1000 → ∀ sp p n : Int, (K.enter 31 #[ptr c, i64 sp, i64 p, i64 n] w).all fun z => ∃ a', CpuAt z.2 c a' (flushA s ⟨sp, p, n⟩) ∧ a'.pb = a.pb ∧ MvC w z.2 s a
  sync : ∀ {w : World} {c : Nat} {a : Ad} {s : CS} {B : Nat}, CpuAt w c a s → s.ok B → B ≤ 1000 → ∀ n : Int, (K.enter 32 #[ptr c, i64 n] w).all fun z => z.1 = i64 (if isN s n then 0 else 3) ∧ CpuAt z.2 c a (if isN s n then syncA s n.toNat else s) ∧ MvC w z.2 s a
  end_ : ∀ {w : World} {c : Nat} {a : Ad} {s : CS} {B : Nat}, CpuAt w c a s → s.ok B → B ≤ 1000 → ∀ sp : Int, (K.enter 33 #[ptr c, i64 sp] w).all fun z => CpuAt z.2 c a (endA s s.N sp) ∧ MvC w z.2 s a
  drop : ∀ {w : World} {c : Nat} {a : Ad} {s : CS} {B : Nat}, CpuAt w c a s → s.ok B → ∀ n i : Int, In64 i → (K.enter 34 #[ptr c, i64 n, i64 i] w).all fun z => z.1 = i64 (dropE s n i) ∧ CpuAt z.2 c a (if isN s n then dropA s n.toNat i else s) ∧ MvC w z.2 s a
  quiet : ∀ {w : World} {c : Nat} {a : Ad} {s : CS} {B : Nat}, CpuAt w c a s → s.ok B → ∀ sp : Int, (K.enter 36 #[ptr c, i64 sp] w).all fun z => z.1 = .bool (quietA s s.N sp) ∧ Keeps w z.2 (fun _ => False)
  lines : ∀ {w : World} {c : Nat} {a : Ad} {s : CS} {B : Nat}, CpuAt w c a s → s.ok B → ∀ n : Int, isN s n → (K.enter 37 #[ptr c, i64 n] w).all fun z => Lns z.2 z.1 (s.L n.toNat) ∧ Keeps w z.2 (fun _ => False) ∧ ∀ j, blockOf z.1 = some j → w.heap.size ≤ j
  behind : ∀ {w : World} {c : Nat} {a : Ad} {s : CS} {B : Nat}, CpuAt w c a s → s.ok B → B ≤ 1000 → ∀ n sp : Int, isN s n → (K.enter 38 #[ptr c, i64 n, i64 sp] w).all fun z => z.1 = i64 (behindA s n.toNat sp) ∧ z.2 = w
  xnew : ∀ {w : World} {n : Nat} {size : Int}, 1 ≤ n ∧ n ≤ 8 → 1 ≤ size ∧ size ≤ 64 → (K.enter 53 #[i64 n, i64 size] w).all fun z => ∃ x r, z.1 = .tuple #[ptr x, i64 0] ∧ RefAt z.2 x r (newA n size) 0 ∧ Keeps w z.2 (fun _ => False) ∧ ∀ i, i < n → ∀ b, foot z.2 (r.pb i) b → w.heap.size ≤ b
  xput : ∀ {w : World} {x : Nat} {r : Rd} {s : CS} {B C : Nat}, RefAt w x r s C → s.ok B → B ≤ 1000 → C < 20000 → ∀ (n : Int) (y : Line), (K.enter 57 #[ptr x, i64 n, .agg y.cells] w).all fun z => z.1 = i64 (putE s n y) ∧ (∃ r', r'.pb = r.pb ∧ RefAt z.2 x r' (if isN s n then putA s n.toNat y else s) (C + 1)) ∧ MvR w z.2 s r
  xlook : ∀ {w : World} {x : Nat} {r : Rd} {s : CS} {B C : Nat}, RefAt w x r s C → s.ok B → B ≤ 1000 → C < 20000 → ∀ n sp p : Int, (K.enter 58 #[ptr x, i64 n, i64 sp, i64 p] w).all fun z => ∃ r', r'.pb = r.pb ∧ (isN s n → z.1 = lookV (lookL ((catchA s n.toNat sp).L n.toNat) sp p) ∧ RefAt z.2 x r' (catchA s n.toNat sp) (C + 1)) ∧ (¬ isN s n → z.1 = lookV none ∧ RefAt z.2 x r' s (C + 1)) ∧ MvR w z.2 s r
  xflush : ∀ {w : World} {x : Nat} {r : Rd} {s : CS} {B C : Nat}, RefAt w x r s C → s.ok B → B ≤ 1000 → ∀ sp p n : Int, (K.enter 59 #[ptr x, i64 sp, i64 p, i64 n] w).all fun z => (∃ r', r'.pb = r.pb ∧ RefAt z.2 x r' (flushA s ⟨sp, p, n⟩) C) ∧ MvR w z.2 s r
  xsync : ∀ {w : World} {x : Nat} {r : Rd} {s : CS} {B C : Nat}, RefAt w x r s C → s.ok B → B ≤ 1000 → C + B < 20000 → ∀ n : Int, (K.enter 39 #[ptr x, i64 n] w).all fun z => z.1 = i64 (if isN s n then 0 else 3) ∧ (∃ r', r'.pb = r.pb ∧ RefAt z.2 x r' (if isN s n then syncA s n.toNat else s) (C + B)) ∧ MvR w z.2 s r
  xend : ∀ {w : World} {x : Nat} {r : Rd} {s : CS} {B C : Nat}, RefAt w x r s C → s.ok B → B ≤ 1000 → C < 20000 → ∀ sp : Int, (K.enter 60 #[ptr x, i64 sp] w).all fun z => (∃ r', r'.pb = r.pb ∧ RefAt z.2 x r' (endA s s.N sp) (C + 8)) ∧ MvR w z.2 s r
  xdrop : ∀ {w : World} {x : Nat} {r : Rd} {s : CS} {B C : Nat}, RefAt w x r s C → s.ok B → ∀ n i : Int, In64 i → (K.enter 61 #[ptr x, i64 n, i64 i] w).all fun z => z.1 = i64 (dropE s n i) ∧ RefAt z.2 x r (if isN s n then dropA s n.toNat i else s) C ∧ MvR w z.2 s r
  xquiet : ∀ {w : World} {x : Nat} {r : Rd} {s : CS} {B C : Nat}, RefAt w x r s C → s.ok B → B ≤ 1000 → C < 20000 → ∀ sp : Int, (K.enter 40 #[ptr x, i64 sp] w).all fun z => z.1 = .bool (quietA s s.N sp) ∧ z.2 = w
theorem cps (m : Nat) (hm : 20000 ≤ m) : Cps (runA Try.prog sp5 (m + 9)) where
  a := api (m + 4) (by omega)
  new := fun h1 h2 => enter_ok (m := m + 8) low27 rfl (run27 (api (m + 3) (by omega)) (by omega) h1 h2)
  put := fun hp hs hB n x => enter_ok (m := m + 8) low29 rfl (run29 (catches (m + 1) (by omega)) hp hs hB n x)
  look := fun hp hs hB n sp p => enter_ok (m := m + 8) low30 rfl (run30 (catches (m + 1) (by omega)) hp hs hB n sp p)
  flush := fun hp hs hB sp p n => enter_ok (m := m + 8) low31 rfl (run31 hp hs hB sp p n)
  sync := fun hp hs hB n => enter_ok (m := m + 8) low32 rfl (run32 (catches (m + 1) (by omega)) (by omega) hp hs hB n)
  end_ := fun hp hs hB sp => enter_ok (m := m + 8) low33 rfl (run33 (told (m + 2) (by omega)) (by omega) hp hs hB sp)
  drop := fun hp hs n i hi => enter_ok (m := m + 8) low34 rfl (run34 (told (m + 2) (by omega)) hp hs n i hi)
  quiet := fun hp hs sp => enter_ok (m := m + 8) low36 rfl (run36 (told (m + 2) (by omega)) (by omega) hp hs sp)
  lines := fun hp hs n hn => enter_ok (m := m + 8) low37 rfl (run37 (told (m + 2) (by omega)) hp hs n hn)
  behind := fun hp hs hB n sp hn => enter_ok (m := m + 8) low38 rfl (run38 (told (m + 2) (by omega)) hp hs hB n sp hn)
  xnew := fun h1 h2 => enter_ok (m := m + 8) low53 rfl (run53 (by omega) h1 h2)
  xput := fun hp hs hB hC n y => enter_ok (m := m + 8) low57 rfl (run57 (docs (m + 1) (by omega)) hp hs hB hC n y)
  xlook := fun hp hs hB hC n sp p => enter_ok (m := m + 8) low58 rfl (run58 (docs (m + 1) (by omega)) hp hs hB hC n sp p)
  xflush := fun hp hs hB sp p n => enter_ok (m := m + 8) low59 rfl (run59 (docs (m + 1) (by omega)) hp hs hB sp p n)
  xsync := fun hp hs hB hC n => enter_ok (m := m + 8) low39 rfl (run39 (docs (m + 1) (by omega)) (by omega) hp hs hB hC n)
  xend := fun hp hs hB hC sp => enter_ok (m := m + 8) low60 rfl (run60 (docs (m + 1) (by omega)) (by omega) hp hs hB hC sp)
  xdrop := fun hp hs n i hi => enter_ok (m := m + 8) low61 rfl (run61 (docs (m + 1) (by omega)) hp hs n i hi)
  xquiet := fun hp hs hB hC sp => enter_ok (m := m + 8) low40 rfl (run40 (docs (m + 1) (by omega)) (fun hp hs hB hC _ hi sp => enter_ok (m := m + 7) low56 rfl (run56 (docs m hm) hp hs hB hC hi sp)) (by omega) hp hs hB hC sp)

/-! ### Both -/
structure Both (w : World) (c : Nat) (a : Ad) (s : CS) (x : Nat) (r : Rd) (t : CS) (C : Nat) : Prop where
  c : CpuAt w c a s
  x : RefAt w x r t C
  n : t.N = s.N
  ap : ∀ i j, i < s.N → j < t.N → ∀ b, foot w (a.pb i) b → ¬ foot w (r.pb j) b

def MvB (w w' : World) (N : Nat) (p q : Nat → Nat) : Prop := Keeps w w' (fun b => Mine w N p TW True b ∨ Mine w N q TRW False b) ∧ (∀ i, i < N → ∀ b, foot w' (p i) b → foot w (p i) b ∨ w.heap.size ≤ b) ∧ ∀ i, i < N → ∀ b, foot w' (q i) b → foot w (q i) b ∨ w.heap.size ≤ b
theorem MvB.refl (w : World) (N : Nat) (p q : Nat → Nat) : MvB w w N p q := ⟨Keeps.refl _ _, fun _ _ _ h => .inl h, fun _ _ _ h => .inl h⟩
theorem mine_back {a b : World} {N : Nat} {p : Nat → Nat} {T : TypeId → Prop} {M : Prop} {F : Nat → Prop} (hk : Keeps a b F) (hf : ∀ i, i < N → ∀ j, foot b (p i) j → foot a (p i) j ∨ a.heap.size ≤ j) {j : Nat} (hj : j < a.heap.size) (h : Mine b N p T M j) (hn : ¬ F j) : Mine a N p T M j := by
  rcases h with ⟨i, hi, h⟩ | ⟨hM, hc⟩ | ⟨c, t, hc, ht⟩
  · rcases hf i hi j h with g | g
    · exact .inl ⟨i, hi, g⟩
    · omega
  · have hat := hk.2 j hj hn
    have : cellsOf? b j = cellsOf? a j := by unfold cellsOf?; rw [hat]
    exact .inr (.inl ⟨hM, by rw [← this]; exact hc⟩)
  · have hat := hk.2 j hj hn
    have : cellsOf? b j = cellsOf? a j := by unfold cellsOf?; rw [hat]
    exact .inr (.inr ⟨c, t, by rw [← this]; exact hc, ht⟩)
theorem MvB.trans {a b c : World} {N : Nat} {p q : Nat → Nat} (h : MvB a b N p q) (k : MvB b c N p q) : MvB a c N p q := by
  refine ⟨h.1.trans k.1 (fun _ _ h => h) (fun j hj hm => Classical.byContradiction fun hn => ?_), fun i hi j hj => ?_, fun i hi j hj => ?_⟩
  · rcases hm with hm | hm
    · exact hn (.inl (mine_back h.1 h.2.1 hj hm hn))
    · exact hn (.inr (mine_back h.1 h.2.2 hj hm hn))
  · rcases k.2.1 i hi j hj with g | g
    · exact h.2.1 i hi j g
    · exact .inr (Nat.le_trans h.1.1 g)
  · rcases k.2.2 i hi j hj with g | g
    · exact h.2.2 i hi j g
    · exact .inr (Nat.le_trans h.1.1 g)

theorem mine_no {w : World} {N N' : Nat} {p q : Nat → Nat} {T T' : TypeId → Prop} {M M' : Prop} (hp : ∀ i, i < N → ∀ b, foot w (p i) b → ∃ c t, cellsOf? w b = some (c, t, (0, 0)) ∧ ¬ T' t) (hq : ∀ i, i < N' → ∀ b, foot w (q i) b → ∃ c t, cellsOf? w b = some (c, t, (0, 0)) ∧ ¬ T t) (hpq : ∀ i j, i < N → j < N' → ∀ b, foot w (p i) b → ¬ foot w (q j) b) (hT : ∀ t, T t → ¬ T' t) (hM : ¬ (M ∧ M')) {b : Nat} (h : Mine w N p T M b) : ¬ Mine w N' q T' M' b := by
  intro h'
  rcases h with ⟨i, hi, hf⟩ | ⟨m, hc⟩ | ⟨c, t, hc, ht⟩ <;> rcases h' with ⟨j, hj, hf'⟩ | ⟨m', hc'⟩ | ⟨c', t', hc', ht'⟩
  · exact hpq i j hi hj b hf hf'
  · obtain ⟨_, _, g, _⟩ := hp i hi b hf
    rw [hc'] at g; cases g
  · obtain ⟨_, _, g, g2⟩ := hp i hi b hf
    rw [hc'] at g; simp only [Option.some.injEq, Prod.mk.injEq] at g
    rw [← g.2.1] at g2; exact g2 ht'
  · obtain ⟨_, _, g, _⟩ := hq j hj b hf'
    rw [hc] at g; cases g
  · exact hM ⟨m, m'⟩
  · rw [hc] at hc'; cases hc'
  · obtain ⟨_, _, g, g2⟩ := hq j hj b hf'
    rw [hc] at g; simp only [Option.some.injEq, Prod.mk.injEq] at g
    rw [← g.2.1] at g2; exact g2 ht
  · rw [hc] at hc'; cases hc'
  · rw [hc] at hc'; simp only [Option.some.injEq, Prod.mk.injEq] at hc'
    rw [← hc'.2.1] at ht'; exact hT t ht ht'

theorem CpuAt.tags {w : World} {c : Nat} {a : Ad} {s : CS} (h : CpuAt w c a s) {T : TypeId → Prop} (h1 : ¬ T 89) (h2 : ¬ T 31) : ∀ i, i < s.N → ∀ b, foot w (a.pb i) b → ∃ c t, cellsOf? w b = some (c, t, (0, 0)) ∧ ¬ T t := fun i hi b hb => by
  obtain ⟨c, t, g, ht⟩ := (h.buf i hi).tag hb
  exact ⟨c, t, g, by rcases ht with rfl | rfl; exact h1; exact h2⟩
theorem RefAt.tags {w : World} {x : Nat} {r : Rd} {s : CS} {C : Nat} (h : RefAt w x r s C) {T : TypeId → Prop} (h1 : ¬ T 38) (h2 : ¬ T 31) : ∀ i, i < s.N → ∀ b, foot w (r.pb i) b → ∃ c t, cellsOf? w b = some (c, t, (0, 0)) ∧ ¬ T t := fun i hi b hb => by
  obtain ⟨c, t, g, ht⟩ := (h.buf i hi).tag hb
  exact ⟨c, t, g, by rcases ht with rfl | rfl; exact h1; exact h2⟩

theorem Both.left {w w' : World} {c x C : Nat} {a a' : Ad} {s s' t : CS} {r : Rd} (h : Both w c a s x r t C) (hc : CpuAt w' c a' s') (hpb : a'.pb = a.pb) (hN : s'.N = s.N) (mv : MvC w w' s a) : Both w' c a' s' x r t C ∧ MvB w w' s.N a.pb r.pb := by
  have hdis : ∀ b, Mine w t.N r.pb TR False b → ¬ Mine w s.N a.pb TW True b := fun b => mine_no (h.x.tags (by simp [TW]) (by simp [TW])) (h.c.tags (by simp [TR]) (by simp [TR])) (fun i j hi hj b hb hb' => h.ap j i hj hi b hb' hb) (fun t ht ht' => by rcases ht' with rfl | rfl <;> simp [TR] at ht) (fun h => h.1)
  obtain ⟨hx, hf⟩ := h.x.keep mv.1 hdis
  refine ⟨⟨hc, hx, by rw [hN]; exact h.n, fun i j hi hj b h1 h2 => ?_⟩, mv.1.mono fun _ _ h => .inl h, mv.2, fun i hi b hb => .inl ((hf i (by rw [h.n]; exact hi) b).1 hb)⟩
  rw [hN] at hi
  rw [hpb] at h1
  have h3 := (hf j hj b).1 h2
  rcases mv.2 i hi b h1 with g | g
  · exact h.ap i j hi hj b g h3
  · have := (h.x.buf j hj).foot_lt h3; omega
theorem Both.right {w w' : World} {c x C C' : Nat} {a : Ad} {s t t' : CS} {r r' : Rd} (h : Both w c a s x r t C) (hx : RefAt w' x r' t' C') (hpb : r'.pb = r.pb) (hN : t'.N = t.N) (mv : MvR w w' t r) : Both w' c a s x r' t' C' ∧ MvB w w' s.N a.pb r.pb := by
  have hdis : ∀ b, Mine w s.N a.pb TC True b → ¬ Mine w t.N r.pb TRW False b := fun b => mine_no (h.c.tags (by simp [TRW]) (by simp [TRW])) (h.x.tags (by simp [TC]) (by simp [TC])) h.ap (fun t ht ht' => by rcases ht' with rfl | rfl | rfl <;> simp [TC] at ht) (fun h => h.2)
  obtain ⟨hc, hf⟩ := h.c.keep mv.1 hdis
  have hk := mv.1
  rw [h.n] at hk
  refine ⟨⟨hc, hx, by rw [hN]; exact h.n, fun i j hi hj b h1 h2 => ?_⟩, hk.mono fun _ _ h => .inr h, fun i hi b hb => .inl ((hf i hi b).1 hb), fun i hi => mv.2 i (by rw [h.n]; exact hi)⟩
  rw [hN] at hj
  rw [hpb] at h2
  have h3 := (hf i hi b).1 h1
  rcases mv.2 j hj b h2 with g | g
  · exact h.ap i j hi hj b h3 g
  · have := (h.c.buf i hi).foot_lt h3; omega
theorem Both.new {w w' : World} {c x C : Nat} {a : Ad} {s t : CS} {r : Rd} (h : Both w c a s x r t C) (hk : Keeps w w' (fun _ => False)) : Both w' c a s x r t C ∧ MvB w w' s.N a.pb r.pb := by
  obtain ⟨h1, h2⟩ := h.c.keep hk (fun _ _ h => h)
  exact h.left h1 rfl rfl (MoveC.new h.c hk)
/-- A block that is nobody's is kept. -/
theorem MvB.keepT {w w' : World} {N : Nat} {p q : Nat → Nat} (h : MvB w w' N p q) (hp : ∀ i, i < N → ∀ b, foot w (p i) b → ∃ c t, cellsOf? w b = some (c, t, (0, 0)) ∧ (t = 89 ∨ t = 31)) (hq : ∀ i, i < N → ∀ b, foot w (q i) b → ∃ c t, cellsOf? w b = some (c, t, (0, 0)) ∧ (t = 38 ∨ t = 31)) {b : Nat} {cs : Array Value} {t : TypeId} {fz : Nat × Nat} (hc : cellsOf? w b = some (cs, t, fz))
    (ht : fz ≠ (0, 0) ∨ (t ≠ 89 ∧ t ≠ 38 ∧ t ≠ 31 ∧ t ≠ 105 ∧ t ≠ 107 ∧ t ≠ 114 ∧ t ≠ 117 ∧ t ≠ 122)) : cellsOf? w' b = some (cs, t, fz) := by
  refine h.1.cells hc fun hm => ?_
  have key : ∀ {c' t'}, cellsOf? w b = some (c', t', (0, 0)) → fz = (0, 0) ∧ t' = t := fun hc' => by
    rw [hc] at hc'; simp only [Option.some.injEq, Prod.mk.injEq] at hc'; exact ⟨hc'.2.2, hc'.2.1.symm⟩
  rcases hm with (⟨i, hi, hf⟩ | ⟨_, h0⟩ | ⟨c', t', hc', ht'⟩) | (⟨i, hi, hf⟩ | ⟨h0, _⟩ | ⟨c', t', hc', ht'⟩)
  · obtain ⟨_, _, g, g2⟩ := hp i hi b hf
    obtain ⟨k1, k2⟩ := key g
    subst k2
    rcases ht with ht | ht
    · exact ht k1
    · rcases g2 with rfl | rfl <;> simp at ht
  · rw [hc] at h0; cases h0
  · obtain ⟨k1, k2⟩ := key hc'
    subst k2
    rcases ht with ht | ht
    · exact ht k1
    · rcases ht' with rfl | rfl <;> simp at ht
  · obtain ⟨_, _, g, g2⟩ := hq i hi b hf
    obtain ⟨k1, k2⟩ := key g
    subst k2
    rcases ht with ht | ht
    · exact ht k1
    · rcases g2 with rfl | rfl <;> simp at ht
  · exact h0
  · obtain ⟨k1, k2⟩ := key hc'
    subst k2
    rcases ht with ht | ht
    · exact ht k1
    · rcases ht' with rfl | rfl | rfl <;> simp at ht
theorem Both.kept {w w' : World} {c x C : Nat} {a : Ad} {s t : CS} {r : Rd} (h : Both w c a s x r t C) (mv : MvB w w' s.N a.pb r.pb) {b : Nat} {cs : Array Value} {t : TypeId} {fz : Nat × Nat} (hc : cellsOf? w b = some (cs, t, fz))
    (ht : fz ≠ (0, 0) ∨ (t ≠ 89 ∧ t ≠ 38 ∧ t ≠ 31 ∧ t ≠ 105 ∧ t ≠ 107 ∧ t ≠ 114 ∧ t ≠ 117 ∧ t ≠ 122)) : cellsOf? w' b = some (cs, t, fz) :=
  mv.keepT (fun i hi b hb => (h.c.buf i hi).tag hb) (fun i hi b hb => (h.x.buf i (by rw [h.n]; exact hi)).tag hb) hc ht
/-- A row of lines that is nobody's is kept. -/
theorem Both.keptL {w w' : World} {c x C : Nat} {a : Ad} {s t : CS} {r : Rd} (_h : Both w c a s x r t C) (mv : MvB w w' s.N a.pb r.pb) {b : Nat} {cs : Array Value} (hc : cellsOf? w b = some (cs, 31, (0, 0))) (h1 : ∀ i, i < s.N → ¬ foot w (a.pb i) b) (h2 : ∀ i, i < s.N → ¬ foot w (r.pb i) b) : cellsOf? w' b = some (cs, 31, (0, 0)) := by
  refine mv.1.cells hc fun hm => ?_
  rcases hm with (⟨i, hi, hf⟩ | ⟨_, h0⟩ | ⟨c', t', hc', ht'⟩) | (⟨i, hi, hf⟩ | ⟨h0, _⟩ | ⟨c', t', hc', ht'⟩)
  · exact h1 i hi hf
  · rw [hc] at h0; cases h0
  · rw [hc] at hc'; simp only [Option.some.injEq, Prod.mk.injEq] at hc'
    rw [← hc'.2.1] at ht'; simp [TW] at ht'
  · exact h2 i hi hf
  · exact h0
  · rw [hc] at hc'; simp only [Option.some.injEq, Prod.mk.injEq] at hc'
    rw [← hc'.2.1] at ht'; simp [TRW] at ht'

/-! ### A call -/
structure ActC where
  k : Int
  u : Int
  s : Int
  p : Int
  n : Int
  c : Line
def ActC.cells (a : ActC) : Array Value := #[i64 a.k, i64 a.u, i64 a.s, i64 a.p, i64 a.n, i64 a.c.s, i64 a.c.p, i64 a.c.o, i64 a.c.f, .bool a.c.w]
@[simp] theorem actC_size (a : ActC) : a.cells.size = 10 := rfl
@[simp] theorem actC_g0 (a : ActC) (h) : a.cells[0]'h = i64 a.k := rfl
@[simp] theorem actC_g1 (a : ActC) (h) : a.cells[1]'h = i64 a.u := rfl
@[simp] theorem actC_g2 (a : ActC) (h) : a.cells[2]'h = i64 a.s := rfl
@[simp] theorem actC_g3 (a : ActC) (h) : a.cells[3]'h = i64 a.p := rfl
@[simp] theorem actC_g4 (a : ActC) (h) : a.cells[4]'h = i64 a.n := rfl
@[simp] theorem actC_line (a : ActC) : a.cells.extract 5 10 = a.c.cells := by simp [ActC.cells, Line.cells]
@[simp] theorem actC_all (a : ActC) : a.cells.extract 0 10 = a.cells := by simp [ActC.cells]
@[simp] theorem actC_one (a : ActC) : a.cells.toList.all one1 = true := rfl
@[simp] theorem actC_veq (a : ActC) : veq 4 (.agg a.cells) (.agg a.cells) = true := by simp [veq, ActC.cells]
def ActC.ok (a : ActC) : Prop := In64 a.s ∧ In64 a.p ∧ In64 a.n
noncomputable def stepC (s : CS) (y : ActC) : CS :=
  if y.k = 0 ∨ y.k = 1 ∨ y.k = 2 then (if isN s y.u then putA s y.u.toNat y.c else s)
  else if y.k = 3 ∨ y.k = 4 then (if isN s y.u then catchA s y.u.toNat y.s else s)
  else if y.k = 5 ∨ y.k = 6 ∨ y.k = 7 then flushA s ⟨y.s, y.p, y.n⟩
  else if y.k = 8 then (if isN s y.u then syncA s y.u.toNat else s)
  else if y.k = 9 then endA s s.N y.s
  else (if isN s y.u then dropA s y.u.toNat y.n else s)
theorem stepC_N (s : CS) (y : ActC) : (stepC s y).N = s.N := by
  unfold stepC
  repeat' split
  all_goals simp
theorem stepC_ok {s : CS} {B : Nat} (h : s.ok B) {y : ActC} (hy : y.ok) : (stepC s y).ok (B + 1) := by
  have h' := h.mono (Nat.le_succ B)
  unfold stepC
  repeat' split
  all_goals first
    | exact h'
    | (rename_i hn; exact put_ok h' hn.lt _)
    | (rename_i hn; exact h'.catchA hn.lt _)
    | (rename_i hn; exact h'.syncA hn.lt)
    | exact flush_ok h hy.2.1 hy.2.2
    | exact end_ok h' _ _
    | (rename_i hn; exact drop_ok h' hn.lt _)
end Go.Proofs.Ytplcocifndpplaa
