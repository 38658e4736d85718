/-
  Objects: Frames, Len, New.
-/
import Derived.Test.YtkplodhjceieeaaXe
namespace Go.Proofs.Ytkplodhjceieeaa
open Go Go.Ideal

def hasF (s : OS) (id f : Int) : Bool := match ownA s f with
  | some o => decide (o.id = id)
  | none => false
def fIs (s : OS) (id : Int) : List Int := (List.range 1024).map fun f : Nat => if hasF s id (f : Int) then 1 else 0
/-- An object's frames. -/
def framesA (s : OS) (id : Int) : List Int := freeL (fIs s id)
theorem fIs_at (s : OS) (id : Int) {n : Nat} (h : n < 1024) : (fIs s id)[n]? = some (if hasF s id n then 1 else 0) := by
  simp [fIs, h]
theorem hasF_iff {s : OS} {id f : Int} : hasF s id f = true ↔ ∃ o, ownA s f = some o ∧ o.id = id := by
  unfold hasF
  cases ownA s f with
  | none => simp
  | some o => simp
theorem frames_mem {s : OS} {id x : Int} : x ∈ framesA s id ↔ (0 ≤ x ∧ x < 1024) ∧ ∃ o, ownA s x = some o ∧ o.id = id := by
  unfold framesA
  rw [free_mem]
  constructor
  · rintro ⟨h0, h1, h2⟩
    rw [fIs_at s id (by omega), show ((x.toNat : Nat) : Int) = x by omega] at h2
    refine ⟨⟨h0, h1⟩, hasF_iff.1 ?_⟩
    cases hh : hasF s id x with
    | true => rfl
    | false => rw [hh] at h2; simp at h2
  · rintro ⟨⟨h0, h1⟩, h2⟩
    refine ⟨h0, h1, ?_⟩
    rw [fIs_at s id (by omega), show ((x.toNat : Nat) : Int) = x by omega, hasF_iff.2 h2]; rfl
theorem frames_mem' {s : OS} {B : Nat} (hs : s.ok B) {id x : Int} : x ∈ framesA s id ↔ ∃ p o, pageA s id p = some o ∧ o.frame = x := by
  rw [frames_mem]
  constructor
  · rintro ⟨_, o, h1, rfl⟩
    obtain ⟨h2, h3⟩ := own_some h1
    exact ⟨o.page, o, page_of hs h2, h3⟩
  · rintro ⟨p, o, h1, rfl⟩
    obtain ⟨h2, h3, h4⟩ := page_some h1
    exact ⟨(hs.on o h2).2.2, o, own_of hs h2, h3⟩
theorem frames_dead {s : OS} {B : Nat} (hs : s.ok B) {id : Int} (h : ¬ 0 < heldA s id) : framesA s id = [] := by
  rw [List.eq_nil_iff_forall_not_mem]
  intro x hx
  obtain ⟨_, o, h1, rfl⟩ := frames_mem.1 hx
  exact h (hs.on o (own_some h1).1).1

def frOf (s : OS) (id p : Int) : Int := ((pageA s id p).map (·.frame)).getD 0
theorem frOf_of {s : OS} {id p : Int} {o : On} (h : pageA s id p = some o) : frOf s id p = o.frame := by simp [frOf, h]

theorem nodup_fr {s : OS} {B : Nat} (hs : s.ok B) {id : Int} {l : List Int} (hl : l.Nodup) (h : ∀ p ∈ l, pageA s id p ≠ none) : (l.map (frOf s id)).Nodup := by
  induction l with
  | nil => simp
  | cons a l ih =>
    rw [List.nodup_cons] at hl
    rw [List.map_cons, List.nodup_cons]
    refine ⟨fun hm => ?_, ih hl.2 (fun p hp => h p (by simp [hp]))⟩
    obtain ⟨q, hq, he⟩ := List.mem_map.1 hm
    obtain ⟨o1, h1⟩ := Option.ne_none_iff_exists'.1 (h a (by simp))
    obtain ⟨o2, h2⟩ := Option.ne_none_iff_exists'.1 (h q (by simp [hq]))
    rw [frOf_of h1, frOf_of h2] at he
    have a1 := page_some h1
    have a2 := page_some h2
    have b1 := own_of hs a1.1
    have b2 := own_of hs a2.1
    rw [he, b1] at b2
    simp only [Option.some.injEq] at b2
    rw [b2, a2.2.2] at a1
    exact hl.1 (a1.2.2 ▸ hq)

theorem run20 {K : Kont} {fuel : Nat} (hF : Find K) (hS : HasSort K) (hf : 4000 ≤ fuel) {w : World} {b l : Nat} {pb pf : Int → Nat} {s : OS} {B : Nat} (hp : ObjR w b l pb pf s) (hs : s.ok B) (id : Int) :
    wpGFn Try.prog K fuel 20 g20 #[pt b, n64 id] w fun v w' => RowE (EInt 3) w' v (framesA s id) ∧ Keeps w w' (fun _ => False) ∧ ∀ j, blkOf v = some j → w.heap.size ≤ j := by
  rw [gfn_start]
  simp -implicitDefEqProofs [g20]
  refine valA_of (hF.find hp id) (fun u w1 hq => ?_)
  obtain ⟨hu, hw⟩ := hq
  simp only at hu hw
  subst hu hw
  by_cases h : 0 < heldA s id
  · obtain ⟨m, hm, hget⟩ := hp.frs id h
    obtain ⟨x0, hx0⟩ := hp.obj id h
    simp -implicitDefEqProofs [findP, findE, h, hx0]
    refine mrange_go (m := m) (r := pf id) under83 (by simp) rfl hm (fun o hit hno hk1 => ?_)
    simp -implicitDefEqProofs
    generalize hw2 : World.push w1 o = w2 at *
    have hkey : ∀ k ∈ keysM m, pageA s id k ≠ none := fun k hk e => by
      have h1 := hget k
      rw [e] at h1
      exact (getM_none.1 h1) hk
    have hml : m.length ≤ 1024 := by
      have h1 := len_sub (nodup_fr hs hm.nodup hkey) (m := framesA s id) (fun x hx => by
        obtain ⟨k, hk, rfl⟩ := List.mem_map.1 hx
        obtain ⟨o, ho⟩ := Option.ne_none_iff_exists'.1 (hkey k hk)
        exact (frames_mem' hs).2 ⟨k, o, ho, (frOf_of ho).symm⟩)
      have h2 := free_len (fIs s id)
      simp only [keysM, List.length_map] at h1
      unfold framesA at h1
      omega
    refine loop_go (fun i ρ w' => ∃ (done : List Int) (v : Value), i = m.length - done.length ∧ Iter w' w1.heap.size (pf id) m done ∧ Keeps w2 w' (fun j => j = w1.heap.size) ∧ ρ 23 = pt w1.heap.size ∧ ρ 5 = v ∧ RowE (EInt 3) w' v (done.map (frOf s id)) ∧ ∀ j, blkOf v = some j → w2.heap.size ≤ j) ?_ (i := m.length) ?_ (by show m.length < fuel; omega)
    · rintro i ρ w' ⟨done, v, rfl, hit, hk, e9, e2, hv, hvb⟩
      subst e2
      simp -implicitDefEqProofs
      refine next_go (m := m) (it := w1.heap.size) (r := pf id) (done := done) (by simp [e9]) rfl hit (fun hall => ?_) (fun k u w3 hg hkn hit2 hk2 => ?_)
      · simp -implicitDefEqProofs
        rw [hS.go]
        have hsub : ∀ k ∈ done, pageA s id k ≠ none := fun k hk => hkey k (hit.sub k hk)
        have hnd := nodup_fr hs hit.nodup hsub
        have hmem : ∀ x, x ∈ done.map (frOf s id) ↔ x ∈ freeL (fIs s id) := by
          intro x
          show _ ↔ x ∈ framesA s id
          rw [frames_mem' hs, List.mem_map]
          constructor
          · rintro ⟨k, hk, rfl⟩
            obtain ⟨o, ho⟩ := Option.ne_none_iff_exists'.1 (hsub k hk)
            exact ⟨k, o, ho, (frOf_of ho).symm⟩
          · rintro ⟨k, o, ho, rfl⟩
            refine ⟨k, hall k (Decidable.byContradiction fun hh => ?_), frOf_of ho⟩
            have := getM_none.2 hh
            rw [hget, ho] at this
            cases this
        have hlen : (done.map (frOf s id)).length ≤ 1000000 := by
          have := len_sub hnd (fun x hx => (hmem x).1 hx)
          have := free_len (fIs s id)
          omega
        refine valA_of (sort_row hv hlen) (fun v3 w3 hq => ?_)
        obtain ⟨hv3, hrow, hk3⟩ := hq
        simp only at hv3 hrow hk3
        rw [sorted_eq hnd hmem] at hrow
        simp -implicitDefEqProofs
        refine ⟨hrow, ?_, fun j hj => ?_⟩
        · have hsz := hk1.1
          exact hk1.trans (hk.trans hk3 (H := fun j => w1.heap.size ≤ j) (fun j _ h => by omega) (fun j _ h => by have := hvb j h; omega)) (fun _ _ h => h) (fun j hj h => by omega)
        · have := hvb j hj
          have := hk1.1
          omega
      · simp -implicitDefEqProofs [e9]
        refine entry_go (m := m) (it := w1.heap.size) (r := pf id) (done := done) (k := k) (v := u) (by simp [e9]) rfl hit2 hg ?_
        have hu := hg
        rw [hget k] at hu
        obtain ⟨o, ho⟩ : ∃ o, pageA s id k = some o := by
          cases hx : pageA s id k with
          | none => rw [hx] at hu; cases hu
          | some o => exact ⟨o, rfl⟩
        rw [ho] at hu
        simp only [Option.map_some, Option.some.injEq] at hu
        subst hu
        have hcnt : (done ++ [k]).length ≤ m.length := by
          have := len_sub hit2.nodup hit2.sub
          simpa [keysM] using this
        have hk12 : Keeps w2 w3 (fun j => j = w1.heap.size) := hk.trans hk2 (fun _ _ h => h) (fun _ _ h => h)
        have hwlt : w1.heap.size < w2.heap.size := by rw [← hw2]; simp
        have hv2 := hv.keep hk2 (fun j hj => by have := hvb j hj; omega)
        rw [List.length_append, List.length_singleton] at hcnt
        simp -implicitDefEqProofs [row1]
        have hkp : Keeps w3 (World.push w3 (.cells #[.int .i64 o.frame] 3)) (fun _ => False) := Keeps.push _ _ _
        refine appE (E := EInt 3) (by_ := 8) (hv2.keep hkp (fun _ _ h => h)) (src_int (c := 3) (n := o.frame) (by simp)) (by simp; omega) (by decide) (fun v4 w4 hr4 hk4 _ hb4 => ?_)
        have hk24 := hkp.trans hk4 (H := fun j => blkOf (ρ 5) = some j) (fun _ _ h => h.elim) (fun _ _ h => h)
        simp -implicitDefEqProofs
        refine ⟨m.length - (done ++ [k]).length, by simp; omega, done ++ [k], rfl, hit2.keep hk24 (fun h => ?_) (fun h => ?_), hk12.trans hk24 (fun _ _ h => h) (fun j hj h => ?_), e9, ?_, fun j hj => ?_⟩
        · have := hvb _ h; have := hm.lt; omega
        · have := hvb _ h; omega
        · have := hvb j h; omega
        · rw [List.map_append, List.map_singleton, frOf_of ho]; exact hr4
        · rw [hb4 (by simp)] at hj
          simp at hj
          have := hk12.1
          omega
    · exact ⟨[], .slice none 0 0, by simp, hit, Keeps.refl _ _, by simp, by simp, RowE.nil _, fun j hj => by cases hj⟩
  · simp -implicitDefEqProofs [findP, findE, h]
    rw [frames_dead hs h]
    exact ⟨RowE.nil _, Keeps.refl _ _⟩

theorem run14 {K : Kont} {fuel : Nat} {w : World} : wpGFn Try.prog K fuel 14 g14 #[] w fun v w' => ∃ b l r, v = pt b ∧ ObjAt w' b l r (fun _ => 0) (fun _ => 0) ⟨[], []⟩ ∧ Keeps w w' (fun _ => False) := by
  rw [gfn_start]
  simp -implicitDefEqProofs [g14, fillS, Instr.fill]
  have h0 : ∀ id, ¬ 0 < heldA ⟨[], []⟩ id := fun id h => by have := held_lt h; simp at this
  refine ⟨⟨w.heap.size, w.heap.size + 1, ?_⟩, (Keeps.push w _ (fun _ => False)).trans ((Keeps.push _ _ (fun _ => False)).trans (Keeps.push _ _ (fun _ => False)) (H := fun _ => False) (fun _ _ h => h) (fun _ _ h => h)) (fun _ _ h => h) (fun _ _ h => h)⟩
  refine ⟨by simp, ⟨[], ?_, fun id => by rw [if_neg (h0 id)]; rfl⟩, ⟨[], ?_, fun f => rfl⟩, fun id h => absurd h (h0 id), fun id h => absurd h (h0 id), fun i _ h => absurd h (h0 i), fun i _ h => absurd h (h0 i), by omega, fun i h => absurd h (h0 i)⟩
  · exact ((MapAt.push w).keep (Keeps.push _ _ (fun _ => False)) (fun h => h)).keep (Keeps.push _ _ (fun _ => False)) (fun h => h)
  · have := (MapAt.push (World.push w (.map #[] 0))).keep (Keeps.push (World.push (World.push w (.map #[] 0)) (.map #[] 0)) (.cells #[n64 0, .map (some w.heap.size), .map (some (w.heap.size + 1))] 81) (fun _ => False)) (fun h => h)
    simpa using this
end Go.Proofs.Ytkplodhjceieeaa
