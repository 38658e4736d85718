/-
  Objects: Len; all the program's calls; 'awake' as an answer.
-/
import Derived.Test.YtkplodhjceieeaaXg
namespace Go.Proofs.Ytkplodhjceieeaa
open Go Go.Ideal Go.ChangeShapes

def lenA (s : OS) : Nat := ((List.range s.held.length).filter fun i : Nat => decide (0 < heldA s (i : Int))).length

theorem live_len {s : OS} {m : MapL} {pb : Int → Nat} (hn : (keysM m).Nodup) (h : ∀ id, getM m id = if 0 < heldA s id then some (pt (pb id)) else none) : m.length = lenA s := by
  have hp : (keysM m).Perm (((List.range s.held.length).filter fun i : Nat => decide (0 < heldA s (i : Int))).map fun i : Nat => (i : Int)) := by
    refine (List.perm_ext_iff_of_nodup hn ?_).2 fun x => ?_
    · show List.Pairwise _ _
      rw [List.pairwise_map]
      exact (List.nodup_range.filter _).imp (fun h e => h (by omega))
    · have hx : x ∈ keysM m ↔ 0 < heldA s x := by
        have h1 := h x
        constructor
        · intro h2
          refine Decidable.byContradiction fun h3 => ?_
          rw [if_neg h3] at h1
          exact (getM_none.1 h1) h2
        · intro h2
          rw [if_pos h2] at h1
          exact Decidable.byContradiction fun h3 => by rw [getM_none.2 h3] at h1; cases h1
      rw [hx, List.mem_map]
      constructor
      · intro h2
        obtain ⟨h3, h4⟩ := held_lt h2
        exact ⟨x.toNat, List.mem_filter.2 ⟨List.mem_range.2 h4, by rw [decide_eq_true_eq, show ((x.toNat : Nat) : Int) = x by omega]; exact h2⟩, by omega⟩
      · rintro ⟨i, hi, rfl⟩
        have := (List.mem_filter.1 hi).2
        rwa [decide_eq_true_eq] at this
  have := hp.length_eq
  rw [List.length_map] at this
  simp only [keysM, List.length_map] at this
  exact this

theorem run21 {K : Kont} {fuel : Nat} {w : World} {b l r : Nat} {pb pf : Int → Nat} {s : OS} (hp : ObjAt w b l r pb pf s) : wpGFn Try.prog K fuel 21 g21 #[pt b] w fun v w' => v = n64 (lenA s) ∧ w' = w := by
  rw [gfn_start]
  obtain ⟨m, hm, hget⟩ := hp.ml
  have hl := len_map hm.is
  rw [live_len hm.nodup hget] at hl
  simp -implicitDefEqProofs [g21, nil23, hp.cell, hl]

set_option maxRecDepth 100000 in
theorem ran15 : ((run Try.prog 100).enter 15 #[] default).allB isTrue = true := by kernel_rfl

/-- The sort, and 'awake'. -/
def objH : HeapAns := fun f a w => if f = 15 ∧ a.size = 0 then some (.ret (.bool true, w)) else sortH 50 f a w
theorem objL : LaidH Try.prog objH where
  calls := fun {B w0 β σ w f args args' t Q} hR ha hf hQ => by
    unfold objH at hf
    split at hf
    · rename_i h
      simp only [Option.some.injEq] at hf
      subst hf
      obtain ⟨rfl, h0⟩ := h
      have h1 : args' = #[] := by
        have := ha.1
        apply Array.eq_empty_of_size_eq_zero
        omega
      subst h1
      refine (calls_closed mixed ran15 w).mono fun e w' he => ?_
      obtain ⟨rfl, hb⟩ := he
      exact ⟨β, .bool true, σ, .refl _, hR.grow hb, .bool _, hQ⟩
    · exact sort50.calls hR ha hf hQ

noncomputable abbrev KO (m : Nat) : Kont := runH Try.prog objH m
theorem o0 {f : FuncId} {a : Array Value} {w : World} (h1 : f ≠ 15) (h2 : f ≠ 50) : objH f a w = none := by simp [objH, sortH, h1, h2]

structure Objs (K : Kont) : Prop where
  r : Frs K
  awake : ∀ w, (K.enter 15 #[] w).all fun x => x.1 = .bool true ∧ x.2 = w
  new : ∀ w, (K.enter 14 #[] w).all fun x => ∃ b l r, x.1 = pt b ∧ ObjAt x.2 b l r (fun _ => 0) (fun _ => 0) ⟨[], []⟩ ∧ Keeps w x.2 (fun _ => False)
  make : ∀ {w : World} {b l r : Nat} {pb pf : Int → Nat} {s : OS} {B : Nat}, ObjAt w b l r pb pf s → s.ok B → B < 1000000 → (K.enter 16 #[pt b] w).all fun z => z.1 = n64 s.held.length ∧ (∃ x y, ObjAt z.2 b l r (upd pb s.held.length x) (upd pf s.held.length y) (makeA s)) ∧ KeepT w z.2
  set : ∀ {w : World} {b l r : Nat} {pb pf : Int → Nat} {s : OS}, ObjAt w b l r pb pf s → ∀ id p f, (K.enter 17 #[pt b, n64 id, n64 p, n64 f] w).all fun z => z.1 = n64 (setO s id p f).1 ∧ ObjAt z.2 b l r pb pf (setO s id p f).2 ∧ KeepT w z.2
  hold : ∀ {w : World} {b l r : Nat} {pb pf : Int → Nat} {s : OS} {B : Nat}, ObjAt w b l r pb pf s → s.ok B → B < 1000000 → ∀ id, (K.enter 18 #[pt b, n64 id] w).all fun z => z.1 = n64 (findE s id) ∧ ObjAt z.2 b l r pb pf (if 0 < heldA s id then putH s id (heldA s id + 1) else s) ∧ KeepT w z.2
  drop : ∀ {w : World} {b l r : Nat} {pb pf : Int → Nat} {s : OS} {B : Nat}, ObjAt w b l r pb pf s → s.ok B → B < 1000000 → ∀ id, (K.enter 19 #[pt b, n64 id] w).all fun z => ∃ vr, z.1 = .tuple #[vr, n64 (dropO s id).1.2] ∧ RowE (EInt 3) z.2 vr (dropO s id).1.1 ∧ (∀ j, blkOf vr = some j → w.heap.size ≤ j) ∧ ObjAt z.2 b l r pb pf (dropO s id).2 ∧ KeepT w z.2
  chg : ∀ {w : World} {b l r : Nat} {pb pf : Int → Nat} {s : OS} {B : Nat}, ObjAt w b l r pb pf s → s.ok B → ∀ a t, (K.enter 27 #[pt b, n64 a, n64 t] w).all fun z => z.1 = n64 (chgO s a t).1 ∧ ObjAt z.2 b l r pb pf (chgO s a t).2 ∧ KeepT w z.2
  page : ∀ {w : World} {b l r : Nat} {pb pf : Int → Nat} {s : OS}, ObjAt w b l r pb pf s → ∀ id p, (K.enter 25 #[pt b, n64 id, n64 p] w).all fun z => z.1 = pageT s id p ∧ z.2 = w
  len : ∀ {w : World} {b l r : Nat} {pb pf : Int → Nat} {s : OS}, ObjAt w b l r pb pf s → (K.enter 21 #[pt b] w).all fun z => z.1 = n64 (lenA s) ∧ z.2 = w

theorem findO (m : Nat) : Find (KO (m + 1)) where
  find := fun hp id => enter_okH (m := m) low48 (o0 (by decide) (by decide)) (run48 hp id)
  frame := fun w f => enter_okH (m := m) low49 (o0 (by decide) (by decide)) (run49 f)
theorem ownO (m : Nat) : Own (KO (m + 1)) where
  f := findO m
  own := fun hp f => enter_okH (m := m) low24 (o0 (by decide) (by decide)) (run24 hp f)
theorem sortO (m : Nat) : HasSort (KO (m + 1)) := ⟨fun v w => by simp [runH, objH, sortH]⟩
theorem frsO (m : Nat) (hm : 4000 ≤ m) : Frs (KO (m + 3)) where
  o := ownO (m + 2)
  frames := fun hp hs id => enter_okH (m := m + 2) low20 (o0 (by decide) (by decide)) (run20 (findO (m + 1)) (sortO (m + 1)) (by omega) hp hs id)
theorem objs (m : Nat) (hm : 4000 ≤ m) : Objs (KO (m + 4)) where
  r := frsO (m + 1) (by omega)
  awake := fun w => by
    simp [runH, objH]
  new := fun w => enter_okH (m := m + 3) low14 (o0 (by decide) (by decide)) run14
  make := fun hp hs hB => enter_okH (m := m + 3) low16 (o0 (by decide) (by decide)) (run16 hp hs hB)
  set := fun hp id p f => enter_okH (m := m + 3) low17 (o0 (by decide) (by decide)) (run17 (B := 0) (findO (m + 2)) hp id p f)
  hold := fun hp hs hB id => enter_okH (m := m + 3) low18 (o0 (by decide) (by decide)) (run18 (findO (m + 2)) hp hs hB id)
  drop := fun hp hs hB id => enter_okH (m := m + 3) low19 (o0 (by decide) (by decide)) (run19 (frsO m hm) (by omega) hp hs hB id)
  chg := fun hp hs a t => enter_okH (m := m + 3) low27 (o0 (by decide) (by decide)) (run27 (ownO (m + 2)) hp hs a t)
  page := fun hp id p => enter_okH (m := m + 3) low25 (o0 (by decide) (by decide)) (run25 (findO (m + 2)) hp id p)
  len := fun hp => enter_okH (m := m + 3) low21 (o0 (by decide) (by decide)) (run21 hp)
end Go.Proofs.Ytkplodhjceieeaa
