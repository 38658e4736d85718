/-
  CpusFresh, plainly: what is held was put, and nothing of it was flushed since but what is not seen yet.
-/
import Derived.Test.YtplcocifndpplaaCr
namespace Go.Proofs.Ytplcocifndpplaa
open Go Go.Ideal

def actAt (xs : List ActC) (m : Nat) : ActC := xs.getD m ⟨0, 0, 0, 0, 0, zeroL⟩
theorem actAt_eq {xs : List ActC} {m : Nat} (h : m < xs.length) : actAt xs m = xs[m] := by simp [actAt, h]
/-- A flush that drops a line, as the statement says it. -/
def rel (y : ActC) (x : Line) : Prop := 4 < y.k ∧ y.k < 8 ∧ y.s = x.s ∧ 0 < y.n ∧ y.p ≤ x.p ∧ 0 ≤ y.p ∧ x.p - y.p < y.n
def ends (y : ActC) (x : Line) : Prop := y.k = 9 ∧ y.s = x.s
def isPut (y : ActC) : Bool := (decide (y.k = 0) || decide (y.k = 1) || decide (y.k = 2)) && (decide (0 ≤ y.u) && decide (y.u < 3)) && lineRight y.c
def idx (xs : List ActC) (i : Nat) : List Nat := (List.range i).filter fun m => isPut (actAt xs m)
theorem idx_snoc (xs : List ActC) (i : Nat) : idx xs (i + 1) = if isPut (actAt xs i) = true then idx xs i ++ [i] else idx xs i := by
  unfold idx
  rw [List.range_succ, List.filter_append]
  cases h : isPut (actAt xs i) <;> simp [h]
theorem idx_len (xs : List ActC) (i : Nat) : (idx xs i).length ≤ i := by
  have := List.length_filter_le (fun m => isPut (actAt xs m)) (List.range i)
  simpa [idx] using this
theorem idx_mem {xs : List ActC} {i m : Nat} : m ∈ idx xs i ↔ m < i ∧ isPut (actAt xs m) = true := by simp [idx]

def hitP (xs : List ActC) (u : Int) (x : Line) (m : Nat) : Prop := (actAt xs m).u = u ∧ (actAt xs m).c = x
noncomputable instance (xs : List ActC) (u : Int) (x : Line) (m : Nat) : Decidable (hitP xs u x m) := Classical.propDecidable _
noncomputable def lastAt (xs : List ActC) (u : Int) (x : Line) (l : List Nat) : Int := l.foldl (fun a m => if hitP xs u x m then (m : Int) else a) (-1)
theorem lastAt_snoc (xs : List ActC) (u : Int) (x : Line) (l : List Nat) (m : Nat) : lastAt xs u x (l ++ [m]) = if hitP xs u x m then (m : Int) else lastAt xs u x l := by simp [lastAt]
theorem lastAt_find {xs : List ActC} {u : Int} {x : Line} : ∀ (i : Nat) {k : Nat}, k < i → isPut (actAt xs k) = true → hitP xs u x k → ∃ m, k ≤ m ∧ m < i ∧ lastAt xs u x (idx xs i) = (m : Int)
  | 0, _, h, _, _ => absurd h (Nat.not_lt_zero _)
  | i + 1, k, h, hp, hh => by
    rw [idx_snoc]
    by_cases hk : k = i
    · subst hk
      rw [if_pos hp, lastAt_snoc, if_pos hh]
      exact ⟨k, Nat.le_refl _, Nat.lt_succ_self _, rfl⟩
    · obtain ⟨m, h1, h2, h3⟩ := lastAt_find i (by omega) hp hh
      split
      · rw [lastAt_snoc]
        split
        · exact ⟨i, by omega, Nat.lt_succ_self _, rfl⟩
        · exact ⟨m, h1, by omega, h3⟩
      · exact ⟨m, h1, by omega, h3⟩

/-- A line of a processor, and the call that put it. -/
structure Fresh (xs : List ActC) (i : Nat) (s : CS) (j : Nat) (x : Line) (k : Nat) : Prop where
  lt : k < i
  put : isPut (actAt xs k) = true
  hit : hitP xs (j : Int) x k
  fl : ∀ m, k ≤ m → m < i → rel (actAt xs m) x → ∃ f ∈ (flo s.A x.s).drop (s.seen j x.s), meets x x.s f.p f.n = true
  en : ∀ m, k ≤ m → m < i → ¬ ends (actAt xs m) x
def FreshAll (xs : List ActC) (i : Nat) (s : CS) : Prop := ∀ j, j < 3 → ∀ x ∈ s.L j, ∃ k, Fresh xs i s j x k

/-- One more call that neither flushes nor ends. -/
theorem Fresh.next {xs : List ActC} {i : Nat} {s : CS} {j : Nat} {x : Line} {k : Nat} (h : Fresh xs i s j x k) (h1 : ¬ rel (actAt xs i) x) (h2 : ¬ ends (actAt xs i) x) : Fresh xs (i + 1) s j x k where
  lt := Nat.lt_succ_of_lt h.lt
  put := h.put
  hit := h.hit
  fl := fun m hk hm hr => by
    by_cases he : m = i
    · subst he; exact absurd hr h1
    · exact h.fl m hk (by omega) hr
  en := fun m hk hm hr => by
    by_cases he : m = i
    · subst he; exact h2 hr
    · exact h.en m hk (by omega) hr
/-- Other states in which as much is pending. -/
theorem Fresh.to {xs : List ActC} {i : Nat} {s t : CS} {j : Nat} {x : Line} {k : Nat} (h : Fresh xs i s j x k) (ht : ∀ f ∈ (flo s.A x.s).drop (s.seen j x.s), meets x x.s f.p f.n = true → ∃ g ∈ (flo t.A x.s).drop (t.seen j x.s), meets x x.s g.p g.n = true) : Fresh xs i t j x k where
  lt := h.lt
  put := h.put
  hit := h.hit
  fl := fun m hk hm hr => by
    obtain ⟨f, hf, hm2⟩ := h.fl m hk hm hr
    exact ht f hf hm2
  en := h.en
theorem Fresh.same {xs : List ActC} {i : Nat} {s t : CS} {j : Nat} {x : Line} {k : Nat} (h : Fresh xs i s j x k) (hA : t.A = s.A) (hs : t.seen j x.s = s.seen j x.s) : Fresh xs i t j x k := h.to fun f hf hm => ⟨f, by rw [hA, hs]; exact hf, hm⟩

theorem meets_all {x : Line} {sp : Int} (hr : lineRight x = true) (hs : x.s = sp) : meets x sp 0 4096 = true := by
  obtain ⟨_, _, h1, h2, _⟩ := lineRight_spec hr
  have := size_cases x.o
  simp [meets, hs]
  omega
/-- What outlives is met by nothing that was not seen. -/
theorem keepF_none {sp : Int} {fs : List Fl} {was : Nat} {x : Line} (hr : lineRight x = true) (hs : x.s = sp) (hk : keepF sp fs was x = true) (_hw : was ≤ fs.length) : ∀ f ∈ fs.drop was, meets x sp f.p f.n = false := by
  unfold keepF at hk
  intro f hf
  split at hk
  · rename_i h; rw [h, List.drop_length] at hf; cases hf
  · split at hk
    · rw [meets_all hr hs] at hk; cases hk
    · rw [List.all_eq_true] at hk
      simpa using hk f hf

theorem Fresh.catch {xs : List ActC} {i B : Nat} {s : CS} (hs : s.ok B) {j : Nat} (hj : j < s.N) {x : Line} {k : Nat} (h : Fresh xs i s j x k) {sp : Int} (hx : x ∈ (catchA s j sp).L j) : Fresh xs i (catchA s j sp) j x k ∧ x ∈ s.L j := by
  have h1 : ∀ f ∈ flo s.A sp, 1 ≤ f.n := fun f hf => (hs.fl f (flo_mem.1 hf).1).2.2.1
  rw [catchA_L, if_pos rfl, catchL_filter h1] at hx
  obtain ⟨hm, hk⟩ := List.mem_filter.1 hx
  refine ⟨h.to fun f hf hmt => ?_, hm⟩
  by_cases he : x.s = sp
  · have := keepF_none (hs.right hj x hm) he hk (hs.seen j sp hj)
    rw [he] at hf hmt
    rw [this f hf] at hmt; cases hmt
  · exact ⟨f, by rw [catchA_A, catchA_seen, if_neg (fun e => he e.2)]; exact hf, hmt⟩
/-- Behind a catch nothing of it was flushed. -/
theorem Fresh.none {xs : List ActC} {i : Nat} {s : CS} {j : Nat} {x : Line} {k : Nat} (h : Fresh xs i (catchA s j x.s) j x k) : ∀ m, k ≤ m → m < i → ¬ rel (actAt xs m) x := fun m h1 h2 hr => by
  obtain ⟨f, hf, _⟩ := h.fl m h1 h2 hr
  rw [catchA_A, catchA_seen, if_pos ⟨rfl, rfl⟩, List.drop_of_length_le (show (flo s.A x.s).length ≤ s.time x.s from Nat.le_refl _)] at hf
  cases hf

theorem fresh_step {xs : List ActC} {i B : Nat} {s : CS} (hs : s.ok B) (hN : s.N = 3) (h : FreshAll xs i s) : FreshAll xs (i + 1) (stepC s (actAt xs i)) := by
  obtain ⟨y, hy⟩ : ∃ y, y = actAt xs i := ⟨_, rfl⟩
  rw [← hy]
  intro j hj x hx
  have hjN : j < s.N := by omega
  have plain : ¬ (4 < y.k ∧ y.k < 8) → y.k ≠ 9 → ∀ {t : CS} {k : Nat}, Fresh xs i t j x k → Fresh xs (i + 1) t j x k := fun h1 h2 t k hf => hf.next (fun hr => h1 (by rw [← hy] at hr; exact ⟨hr.1, hr.2.1⟩)) (fun he => h2 (by rw [← hy] at he; exact he.1))
  have catch1 : ∀ {sp : Int}, x ∈ (catchA s j sp).L j → ∃ k, Fresh xs i (catchA s j sp) j x k := fun {sp} hx => by
    have h1 : ∀ f ∈ flo s.A sp, 1 ≤ f.n := fun f hf => (hs.fl f (flo_mem.1 hf).1).2.2.1
    have hm : x ∈ s.L j := by
      rw [catchA_L, if_pos rfl] at hx
      exact (catchL_sub _ _ _ _).subset hx
    obtain ⟨k, hk⟩ := h j hj x hm
    exact ⟨k, (hk.catch hs hjN hx).1⟩
  unfold stepC at hx ⊢
  by_cases c1 : y.k = 0 ∨ y.k = 1 ∨ y.k = 2
  · rw [if_pos c1] at hx ⊢
    have pl := fun {t : CS} {k : Nat} => @plain (by omega) (by omega) t k
    by_cases hn : isN s y.u
    · rw [if_pos hn] at hx ⊢
      have hnn := isN_n hn
      by_cases hr : lineRight y.c = true
      · have e : putA s y.u.toNat y.c = setLn (catchA s y.u.toNat y.c.s) y.u.toNat (putL ((catchA s y.u.toNat y.c.s).L y.u.toNat) s.size y.c) := by unfold putA; rw [if_pos hr]
        rw [e] at hx ⊢
        by_cases hju : j = y.u.toNat
        · rw [← hju] at hx ⊢
          rw [setLn_at] at hx
          have hmem : x ∈ (catchA s j y.c.s).L j ∨ x = y.c := by
            unfold putL at hx
            rw [List.mem_append, List.mem_singleton] at hx
            rcases hx with hx | hx
            · left
              split at hx
              · exact (flush_sub _ _ _ _).subset (List.mem_of_mem_drop hx)
              · exact (flush_sub _ _ _ _).subset hx
            · exact .inr hx
          by_cases hxc : x = y.c
          · refine ⟨i, Nat.lt_succ_self _, ?_, ?_, fun m h1 h2 hrl => ?_, fun m h1 h2 he => ?_⟩
            · rw [← hy]
              have hn1 : 0 ≤ y.u := hn.1
              have hn2 : y.u < 3 := by have := hn.2; omega
              unfold isPut
              simp only [hr, hn1, hn2, decide_true, Bool.and_self, Bool.and_true]
              rcases c1 with c | c | c <;> simp [c]
            · unfold hitP; rw [← hy]; exact ⟨by omega, hxc.symm⟩
            · have : m = i := by omega
              rw [this, ← hy] at hrl; have := hrl.1; omega
            · have : m = i := by omega
              rw [this, ← hy] at he; have := he.1; omega
          · rcases hmem with hm | hm
            · obtain ⟨k, hk⟩ := catch1 hm
              exact ⟨k, pl (hk.same rfl rfl)⟩
            · exact absurd hm hxc
        · rw [setLn_L, if_neg hju, catchA_L, if_neg hju] at hx
          obtain ⟨k, hk⟩ := h j hj x hx
          exact ⟨k, pl (hk.same rfl (by show (catchA s y.u.toNat y.c.s).seen j x.s = _; rw [catchA_seen, if_neg (fun e => hju e.1)]))⟩
      · have e : putA s y.u.toNat y.c = catchA s y.u.toNat y.c.s := by unfold putA; rw [if_neg hr]
        rw [e] at hx ⊢
        by_cases hju : j = y.u.toNat
        · rw [← hju] at hx ⊢
          obtain ⟨k, hk⟩ := catch1 hx
          exact ⟨k, pl hk⟩
        · rw [catchA_L, if_neg hju] at hx
          obtain ⟨k, hk⟩ := h j hj x hx
          exact ⟨k, pl (hk.same rfl (by rw [catchA_seen, if_neg (fun e => hju e.1)]))⟩
    · rw [if_neg hn] at hx ⊢
      obtain ⟨k, hk⟩ := h j hj x hx
      exact ⟨k, pl hk⟩
  rw [if_neg c1] at hx ⊢
  by_cases c2 : y.k = 3 ∨ y.k = 4
  · rw [if_pos c2] at hx ⊢
    have pl := fun {t : CS} {k : Nat} => @plain (by omega) (by omega) t k
    by_cases hn : isN s y.u
    · rw [if_pos hn] at hx ⊢
      by_cases hju : j = y.u.toNat
      · rw [← hju] at hx ⊢
        obtain ⟨k, hk⟩ := catch1 hx
        exact ⟨k, pl hk⟩
      · rw [catchA_L, if_neg hju] at hx
        obtain ⟨k, hk⟩ := h j hj x hx
        exact ⟨k, pl (hk.same rfl (by rw [catchA_seen, if_neg (fun e => hju e.1)]))⟩
    · rw [if_neg hn] at hx ⊢
      obtain ⟨k, hk⟩ := h j hj x hx
      exact ⟨k, pl hk⟩
  rw [if_neg c2] at hx ⊢
  by_cases c3 : y.k = 5 ∨ y.k = 6 ∨ y.k = 7
  · rw [if_pos c3] at hx ⊢
    rw [flushA_L] at hx
    obtain ⟨k, hk⟩ := h j hj x hx
    have hxr := hs.right hjN x hx
    obtain ⟨_, hx0, hp0, _⟩ := lineRight_spec hxr
    have hsz := size_cases x.o
    have hsn := hs.seen j x.s hjN
    have hto : Fresh xs i (flushA s ⟨y.s, y.p, y.n⟩) j x k := hk.to fun f hf hm => by
      refine ⟨f, ?_, hm⟩
      rw [flushA_seen]
      unfold flushA
      split
      · simp only [flo_snoc]
        split
        · rw [List.drop_append_of_le_length hsn]; exact List.mem_append_left _ hf
        · exact hf
      · exact hf
    refine ⟨k, Nat.lt_succ_of_lt hto.lt, hto.put, hto.hit, fun m h1 h2 hr => ?_, fun m h1 h2 he => ?_⟩
    · by_cases hmi : m = i
      · rw [hmi, ← hy] at hr
        obtain ⟨_, _, r1, r2, r3, r4, r5⟩ := hr
        refine ⟨⟨y.s, y.p, y.n⟩, ?_, ?_⟩
        · rw [flushA_seen]
          unfold flushA
          rw [if_pos (by simp only; omega)]
          simp only [flo_snoc]
          rw [if_pos r1, List.drop_append_of_le_length hsn]
          exact List.mem_append_right _ (List.mem_singleton.2 rfl)
        · have hnp : ¬ y.p < 0 := by omega
          simp [meets, hnp]
          omega
      · exact hto.fl m h1 (by omega) hr
    · by_cases hmi : m = i
      · rw [hmi, ← hy] at he; have := he.1; omega
      · exact hto.en m h1 (by omega) he
  rw [if_neg c3] at hx ⊢
  by_cases c8 : y.k = 8
  · rw [if_pos c8] at hx ⊢
    have pl := fun {t : CS} {k : Nat} => @plain (by omega) (by omega) t k
    by_cases hn : isN s y.u
    · rw [if_pos hn] at hx ⊢
      by_cases hju : j = y.u.toNat
      · rw [← hju] at hx ⊢
        have hx' : x ∈ (s.L j).filter fun c => keepF c.s (flo s.A c.s) (s.seen j c.s) c := by
          have : (syncA s j).L j = (s.L j).filter fun c => keepF c.s (flo s.A c.s) (s.seen j c.s) c := by simp [syncA]
          rw [← this]; exact hx
        obtain ⟨hm, hkp⟩ := List.mem_filter.1 hx'
        obtain ⟨k, hk⟩ := h j hj x hm
        have hno := keepF_none (hs.right hjN x hm) rfl hkp (hs.seen j x.s hjN)
        exact ⟨k, pl (hk.to fun f hf hmt => by rw [hno f hf] at hmt; cases hmt)⟩
      · have hx' : x ∈ s.L j := by
          have : (syncA s y.u.toNat).L j = s.L j := by simp [syncA, hju]
          rw [← this]; exact hx
        obtain ⟨k, hk⟩ := h j hj x hx'
        exact ⟨k, pl (hk.same rfl (by simp [syncA, hju]))⟩
    · rw [if_neg hn] at hx ⊢
      obtain ⟨k, hk⟩ := h j hj x hx
      exact ⟨k, pl hk⟩
  rw [if_neg c8] at hx ⊢
  by_cases c9 : y.k = 9
  · rw [if_pos c9] at hx ⊢
    have hx' : x ∈ flushL (s.L j) y.s 0 4096 := by
      have : (endA s s.N y.s).L j = flushL (s.L j) y.s 0 4096 := by simp [endA, hjN]
      rw [← this]; exact hx
    unfold flushL at hx'
    rw [if_neg (by omega)] at hx'
    obtain ⟨hm, hkp⟩ := List.mem_filter.1 hx'
    have hne : x.s ≠ y.s := fun e => by
      rw [meets_all (hs.right hjN x hm) e] at hkp; cases hkp
    obtain ⟨k, hk⟩ := h j hj x hm
    have hk2 : Fresh xs i (endA s s.N y.s) j x k := hk.same rfl (by simp [endA, hne])
    refine ⟨k, hk2.next (fun hr => ?_) fun he => ?_⟩
    · rw [← hy] at hr; have := hr.2.1; omega
    · rw [← hy] at he; exact hne he.2.symm
  rw [if_neg c9] at hx ⊢
  have pl := fun {t : CS} {k : Nat} => @plain (by omega) c9 t k
  by_cases hn : isN s y.u
  · rw [if_pos hn] at hx ⊢
    have hx' : x ∈ s.L j := by
      unfold dropA at hx
      split at hx
      · rw [setLn_L] at hx
        split at hx
        · rename_i e; rw [e]; exact (drop_sub _ _).subset hx
        · exact hx
      · exact hx
    obtain ⟨k, hk⟩ := h j hj x hx'
    exact ⟨k, pl (hk.same (by simp) (by unfold dropA; split <;> rfl))⟩
  · rw [if_neg hn] at hx ⊢
    obtain ⟨k, hk⟩ := h j hj x hx
    exact ⟨k, pl hk⟩
end Go.Proofs.Ytplcocifndpplaa
