/-
  ObjectKept: the ideal walk.
-/
import Derived.Test.YtkplodhjceieeaaXi
namespace Go.Proofs.Ytkplodhjceieeaa
open Go Go.Ideal

def t3 : GC :=
 (.seq (.ops [.grp none [⟨some 51, none, .move (.tmp 0), []⟩, ⟨some 52, none, .bin .rem 5 (.tmp 51) (.const (.int .u8 20)), []⟩, ⟨some 53, none, .conv .i64 (.tmp 52), []⟩, ⟨some 9, none, .move (.tmp 53), []⟩]]) 
 (.seq 
 (.seq (.ops [.grp none [⟨some 10, none, .move (.const (.int .i64 0)), []⟩]]) 
 (.block 2 
 (.loop 
 (.seq 
 (.seq (.ops [.grp none [⟨some 54, none, .move (.tmp 10), []⟩, ⟨some 55, none, .move (.tmp 9), []⟩, ⟨some 56, none, .bin .lss 3 (.tmp 54) (.tmp 55), []⟩]]) 
 (.cond (.tmp 56) .skip (.exit 2))) 
 (.seq 
 (.block 3 
 (.seq (.ops [.grp none [⟨some 59, none, .move (.tmp 5), []⟩, ⟨some 60, none, .move (.tmp 6), []⟩, ⟨some 61, none, .call 18 #[.tmp 59, .tmp 60], []⟩, ⟨some 62, none, .bin .neq 27 (.tmp 61) (.const (.int .i64 0)), []⟩]]) 
 (.cond (.tmp 62) 
 (.seq (.ops [.grp none [⟨some 4, none, .move (.const (.bool false)), []⟩]]) .ret) .skip))) (.ops [.grp none [⟨some 57, none, .move (.tmp 10), []⟩, ⟨some 58, none, .bin .add 3 (.tmp 57) (.const (.int .i64 1)), []⟩, ⟨some 10, none, .move (.tmp 58), []⟩]])))))) 
 (.seq 
 (.seq (.ops [.grp none [⟨some 11, none, .move (.const (.int .i64 0)), []⟩]]) 
 (.block 4 
 (.loop 
 (.seq 
 (.seq (.ops [.grp none [⟨some 63, none, .move (.tmp 11), []⟩, ⟨some 64, none, .move (.tmp 9), []⟩, ⟨some 65, none, .bin .lss 3 (.tmp 63) (.tmp 64), []⟩]]) 
 (.cond (.tmp 65) .skip (.exit 4))) 
 (.seq 
 (.block 5 
 (.seq (.ops [.grp none [⟨some 69, none, .move (.tmp 5), []⟩, ⟨some 70, none, .move (.tmp 6), []⟩, ⟨some 71, none, .call 19 #[.tmp 69, .tmp 70], []⟩, ⟨some 68, none, .move (.tmp 71), []⟩, ⟨some 72, none, .extract (.tmp 68) 0, []⟩, ⟨some 73, none, .extract (.tmp 68) 1, []⟩, ⟨some 12, none, .move (.tmp 72), []⟩, ⟨some 13, none, .move (.tmp 73), []⟩]]) 
 (.seq (.ops [.grp none [⟨some 74, none, .move (.tmp 13), []⟩, ⟨some 75, none, .bin .neq 27 (.tmp 74) (.const (.int .i64 0)), []⟩, ⟨some 76, none, .move (.tmp 75), []⟩],
  .grp (some (some 76, false)) [⟨some 77, none, .move (.tmp 12), []⟩, ⟨some 78, none, .len (.tmp 77), []⟩, ⟨some 79, none, .bin .gtr 3 (.tmp 78) (.const (.int .i64 0)), []⟩],
  .grp none [⟨some 80, none, .pick (.tmp 76) (.const (.bool true)) (.tmp 79), []⟩, ⟨some 81, none, .move (.tmp 80), []⟩],
  .grp (some (some 81, false)) [⟨some 82, none, .move (.tmp 5), []⟩, ⟨some 83, none, .move (.tmp 6), []⟩, ⟨some 84, none, .call 20 #[.tmp 82, .tmp 83], []⟩, ⟨some 85, none, .len (.tmp 84), []⟩, ⟨some 86, none, .move (.tmp 7), []⟩, ⟨some 87, none, .bin .neq 3 (.tmp 85) (.tmp 86), []⟩],
  .grp none [⟨some 88, none, .pick (.tmp 81) (.const (.bool true)) (.tmp 87), []⟩]]) 
 (.cond (.tmp 88) 
 (.seq (.ops [.grp none [⟨some 4, none, .move (.const (.bool false)), []⟩]]) .ret) .skip)))) (.ops [.grp none [⟨some 66, none, .move (.tmp 11), []⟩, ⟨some 67, none, .bin .add 3 (.tmp 66) (.const (.int .i64 1)), []⟩, ⟨some 11, none, .move (.tmp 67), []⟩]])))))) 
 (.seq (.ops [.grp none [⟨some 90, none, .move (.tmp 5), []⟩, ⟨some 91, none, .move (.tmp 6), []⟩, ⟨some 92, none, .call 19 #[.tmp 90, .tmp 91], []⟩, ⟨some 89, none, .move (.tmp 92), []⟩, ⟨some 93, none, .extract (.tmp 89) 0, []⟩, ⟨some 94, none, .extract (.tmp 89) 1, []⟩, ⟨some 14, none, .move (.tmp 93), []⟩, ⟨some 15, none, .move (.tmp 94), []⟩]]) 
 (.seq (.ops [.grp none [⟨some 96, none, .move (.tmp 5), []⟩, ⟨some 97, none, .move (.tmp 6), []⟩, ⟨some 98, none, .call 19 #[.tmp 96, .tmp 97], []⟩, ⟨some 95, none, .move (.tmp 98), []⟩, ⟨some 99, none, .extract (.tmp 95) 0, []⟩, ⟨some 100, none, .extract (.tmp 95) 1, []⟩, ⟨some 16, none, .move (.tmp 99), []⟩, ⟨some 17, none, .move (.tmp 100), []⟩]]) 
 (.seq (.ops [.grp none [⟨some 101, none, .move (.tmp 15), []⟩, ⟨some 102, none, .bin .eql 27 (.tmp 101) (.const (.int .i64 0)), []⟩, ⟨some 103, none, .move (.tmp 102), []⟩],
  .grp (some (some 103, true)) [⟨some 104, none, .move (.tmp 14), []⟩, ⟨some 105, none, .len (.tmp 104), []⟩, ⟨some 106, none, .move (.tmp 7), []⟩, ⟨some 107, none, .bin .eql 3 (.tmp 105) (.tmp 106), []⟩],
  .grp none [⟨some 108, none, .pick (.tmp 103) (.tmp 107) (.const (.bool false)), []⟩, ⟨some 109, none, .move (.tmp 108), []⟩],
  .grp (some (some 109, true)) [⟨some 110, none, .move (.tmp 17), []⟩, ⟨some 111, none, .bin .eql 27 (.tmp 110) (.const (.int .i64 6)), []⟩],
  .grp none [⟨some 112, none, .pick (.tmp 109) (.tmp 111) (.const (.bool false)), []⟩, ⟨some 113, none, .move (.tmp 112), []⟩],
  .grp (some (some 113, true)) [⟨some 114, none, .move (.tmp 5), []⟩, ⟨some 115, none, .call 21 #[.tmp 114], []⟩, ⟨some 116, none, .bin .eql 3 (.tmp 115) (.const (.int .i64 1)), []⟩],
  .grp none [⟨some 117, none, .pick (.tmp 113) (.tmp 116) (.const (.bool false)), []⟩, ⟨some 118, none, .move (.tmp 117), []⟩],
  .grp (some (some 118, true)) [⟨some 119, none, .move (.tmp 5), []⟩, ⟨some 120, none, .move (.tmp 6), []⟩, ⟨some 121, none, .call 18 #[.tmp 119, .tmp 120], []⟩, ⟨some 122, none, .bin .eql 27 (.tmp 121) (.const (.int .i64 6)), []⟩],
  .grp none [⟨some 123, none, .pick (.tmp 118) (.tmp 122) (.const (.bool false)), []⟩, ⟨some 4, none, .move (.tmp 123), []⟩]]) .ret))))))
def g3c : GFn :=
 ⟨124, [⟨4, none⟩], .seq (.ops [.grp none [⟨some 4, none, .move (.const (.bool false)), []⟩]]) 
 (.seq (.ops [.grp none [⟨some 18, none, .call 14 #[], []⟩, ⟨some 5, none, .move (.tmp 18), []⟩]]) 
 (.seq 
 (.seq (.ops [.grp none [⟨some 19, none, .move (.tmp 5), []⟩, ⟨some 20, none, .bin .eql 23 (.tmp 19) (.const (.pointer none)), []⟩, ⟨some 21, none, .move (.tmp 20), []⟩],
  .grp (some (some 21, false)) [⟨some 22, none, .call 15 #[], []⟩, ⟨some 23, none, .un .not (.tmp 22), []⟩],
  .grp none [⟨some 24, none, .pick (.tmp 21) (.const (.bool true)) (.tmp 23), []⟩]]) 
 (.cond (.tmp 24) 
 (.seq (.ops [.grp none [⟨some 4, none, .move (.const (.bool false)), []⟩]]) .ret) .skip)) 
 (.seq (.ops [.grp none [⟨some 25, none, .move (.tmp 5), []⟩, ⟨some 26, none, .call 16 #[.tmp 25], []⟩]]) 
 (.seq (.ops [.grp none [⟨some 27, none, .move (.tmp 5), []⟩, ⟨some 28, none, .call 16 #[.tmp 27], []⟩, ⟨some 6, none, .move (.tmp 28), []⟩]]) 
 (.seq (.ops [.grp none [⟨some 7, none, .move (.const (.int .i64 0)), []⟩]]) 
 (.seq 
 (.seq (.ops [.grp none [⟨some 8, none, .move (.const (.int .i64 0)), []⟩]]) 
 (.block 0 
 (.loop 
 (.seq 
 (.seq (.ops [.grp none [⟨some 29, none, .move (.tmp 8), []⟩, ⟨some 30, none, .move (.tmp 1), []⟩, ⟨some 31, none, .len (.tmp 30), []⟩, ⟨some 32, none, .bin .lss 3 (.tmp 29) (.tmp 31), []⟩, ⟨some 33, none, .move (.tmp 32), []⟩],
  .grp (some (some 33, true)) [⟨some 34, none, .move (.tmp 8), []⟩, ⟨some 35, none, .bin .lss 3 (.tmp 34) (.const (.int .i64 50)), []⟩],
  .grp none [⟨some 36, none, .pick (.tmp 33) (.tmp 35) (.const (.bool false)), []⟩]]) 
 (.cond (.tmp 36) .skip (.exit 0))) 
 (.seq 
 (.block 1 
 (.seq (.ops [.grp none [⟨some 39, none, .move (.tmp 5), []⟩, ⟨some 40, none, .move (.tmp 6), []⟩, ⟨some 41, none, .move (.tmp 1), []⟩, ⟨some 42, none, .move (.tmp 8), []⟩, ⟨some 43, none, .iaddr 1 (.tmp 41) (.tmp 42), []⟩, ⟨some 44, none, .load none (.tmp 43), []⟩, ⟨some 45, none, .move (.tmp 8), []⟩, ⟨some 46, none, .bin .add 3 (.const (.int .i64 10)) (.tmp 45), []⟩, ⟨some 47, none, .call 17 #[.tmp 39, .tmp 40, .tmp 44, .tmp 46], []⟩, ⟨some 48, none, .bin .eql 27 (.tmp 47) (.const (.int .i64 0)), []⟩]]) 
 (.cond (.tmp 48) (.ops [.grp none [⟨some 49, none, .move (.tmp 7), []⟩, ⟨some 50, none, .bin .add 3 (.tmp 49) (.const (.int .i64 1)), []⟩, ⟨some 7, none, .move (.tmp 50), []⟩]]) .skip))) (.ops [.grp none [⟨some 37, none, .move (.tmp 8), []⟩, ⟨some 38, none, .bin .add 3 (.tmp 37) (.const (.int .i64 1)), []⟩, ⟨some 8, none, .move (.tmp 38), []⟩]])))))) 
 t3))))))⟩
theorem low3c : lowG Try.prog 3 = some g3c := low3

theorem set_cases (s : OS) (id p f : Int) : ((setO s id p f).1 ≠ 0 ∧ (setO s id p f).2 = s) ∨ (setO s id p f = (0, setL s id p f) ∧ 0 < heldA s id ∧ (0 ≤ p ∧ p < 4096) ∧ (0 ≤ f ∧ f < 1024) ∧ pageA s id p = none ∧ ownA s f = none) := by
  unfold setO
  by_cases h1 : 0 < heldA s id
  · rw [if_neg (by simpa using h1)]
    by_cases h2 : (0 ≤ p ∧ p < 4096) ∧ (0 ≤ f ∧ f < 1024)
    · rw [if_neg (fun e => e h2)]
      by_cases h3 : pageA s id p ≠ none ∨ ownA s f ≠ none
      · rw [if_pos h3]; exact .inl ⟨by simp, rfl⟩
      · rw [if_neg h3]
        have h4 : pageA s id p = none := Classical.byContradiction fun e => h3 (.inl e)
        have h5 : ownA s f = none := Classical.byContradiction fun e => h3 (.inr e)
        exact .inr ⟨rfl, h1, h2.1, h2.2, h4, h5⟩
    · rw [if_pos h2]; exact .inl ⟨by simp, rfl⟩
  · rw [if_pos h1]; exact .inl ⟨by simp, rfl⟩

theorem frames_len {s : OS} {B : Nat} (hs : s.ok B) {id : Int} (h : ∀ o ∈ s.l, o.id = id) : (framesA s id).length = s.l.length := by
  have hp : (framesA s id).Perm (s.l.map (·.frame)) := by
    refine (List.perm_ext_iff_of_nodup (free_nodup _) hs.fr).2 fun x => ?_
    show x ∈ framesA s id ↔ _
    rw [frames_mem, List.mem_map]
    constructor
    · rintro ⟨_, o, h1, _⟩
      obtain ⟨h2, h3⟩ := own_some h1
      exact ⟨o, h2, h3⟩
    · rintro ⟨o, h1, rfl⟩
      exact ⟨(hs.on o h1).2.2, o, own_of hs h1, h o h1⟩
  have := hp.length_eq
  rw [List.length_map] at this
  exact this

theorem ok_held {L : List On} {B C : Nat} {x y : Int} (h : (⟨[1, x], L⟩ : OS).ok B) (hall : ∀ o ∈ L, o.id = 1) (hx : 0 < x) (hy : 0 < y) (hC : y ≤ C) (h2 : 2 ≤ C) : (⟨[1, y], L⟩ : OS).ok C where
  fr := h.fr
  pg := h.pg
  on := fun o ho => by
    obtain ⟨_, h1⟩ := h.on o ho
    refine ⟨?_, h1⟩
    rw [hall o ho]
    exact hy
  len := h2
  bd := fun z hz => by
    simp at hz
    rcases hz with rfl | rfl <;> omega

theorem rest3 {K : Kont} {fuel : Nat} (hK : Objs K) (hf : 4000 ≤ fuel) {w : World} {ρ : Env} {b l r : Nat} {pb pf : Int → Nat} {L : List On} {h : Int} (hh : 0 ≤ h ∧ h < 256) (hp : ObjAt w b l r pb pf ⟨[1, 1], L⟩) (hs : (⟨[1, 1], L⟩ : OS).ok 2) (hall : ∀ o ∈ L, o.id = 1) (hL : L.length ≤ 50)
    (e0 : ρ 0 = .int .u8 h) (e5 : ρ 5 = pt b) (e6 : ρ 6 = n64 1) (e7 : ρ 7 = n64 L.length) :
    codeR ⟨Try.prog, K, fuel, 3, none, 124, finPost Try.prog [⟨4, none⟩] fun u _ => u = .bool true⟩ t3 [] ρ [] w := by
  obtain ⟨k, hk, hk20⟩ : ∃ k : Nat, IntKind.i64.wrap (h.tmod 20) = k ∧ k < 20 := by
    have h1 : h.tmod 20 = h % 20 := Int.tmod_eq_emod_of_nonneg hh.1
    refine ⟨(h % 20).toNat, ?_, by omega⟩
    rw [h1, IntKind.wrap_i64]; omega
  have hA : ∀ x : Int, heldA ⟨[1, x], L⟩ 1 = x := fun x => by simp [heldA]
  have hP : ∀ x y : Int, putH ⟨[1, x], L⟩ 1 y = ⟨[1, y], L⟩ := fun x y => by simp [putH]
  have hO : ∀ y : Int, 0 < y → y ≤ 100 → (⟨[1, y], L⟩ : OS).ok 100 := fun y h1 h2 => ok_held hs hall (by omega) h1 (by omega) (by omega)
  simp -implicitDefEqProofs [t3, e0, hk]
  refine loop_go (fun i ρ w' => ∃ (q : Nat), i = k - q ∧ q ≤ k ∧ ObjAt w' b l r pb pf ⟨[1, 1 + (q : Int)], L⟩ ∧ ρ 5 = pt b ∧ ρ 6 = n64 1 ∧ ρ 7 = n64 L.length ∧ ρ 9 = n64 k ∧ ρ 10 = n64 q) ?_ (i := k) ?_ (by show k < fuel; omega)
  · rintro i ρ w' ⟨q, rfl, hq, hp', e5, e6, e7, e9, e10⟩
    have w1 : IntKind.i64.wrap ((q : Int) + 1) = (q : Int) + 1 := by rw [IntKind.wrap_i64]; omega
    by_cases hqk : q < k
    · simp -implicitDefEqProofs [e5, e6, e9, e10, hqk]
      refine valA_of (hK.hold hp' (hO _ (by omega) (by omega)) (by omega) 1) (fun u w2 hq2 => ?_)
      obtain ⟨hu, hp2, _⟩ := hq2
      simp only at hu hp2
      subst hu
      rw [hA, if_pos (by omega), hP] at hp2
      have hfe : findE ⟨[1, 1 + (q : Int)], L⟩ 1 = 0 := by unfold findE; rw [hA, if_pos (by omega)]
      simp -implicitDefEqProofs [hfe, e10, w1]
      refine ⟨k - (q + 1), by omega, q + 1, rfl, by omega, ?_, e5, e6, e7, e9, by omega⟩
      have : (1 + ((q + 1 : Nat) : Int)) = 1 + (q : Int) + 1 := by omega
      rw [this]; exact hp2
    · have hqe : q = k := by omega
      subst hqe
      simp -implicitDefEqProofs [e9, e10]
      refine loop_go (fun i ρ w' => ∃ (p : Nat), i = q - p ∧ p ≤ q ∧ ObjAt w' b l r pb pf ⟨[1, 1 + ((q : Int) - p)], L⟩ ∧ ρ 5 = pt b ∧ ρ 6 = n64 1 ∧ ρ 7 = n64 L.length ∧ ρ 9 = n64 q ∧ ρ 11 = n64 p) ?_ (i := q) ?_ (by show q < fuel; omega)
      · rintro i ρ w' ⟨p, rfl, hpq, hp', e5, e6, e7, e9, e11⟩
        have w1 : IntKind.i64.wrap ((p : Int) + 1) = (p : Int) + 1 := by rw [IntKind.wrap_i64]; omega
        by_cases hlt : p < q
        · simp -implicitDefEqProofs [e5, e6, e9, e11, hlt]
          refine valA_of (hK.drop hp' (hO _ (by omega) (by omega)) (by omega) 1) (fun u w2 hq2 => ?_)
          obtain ⟨vr, hu, hrow, _, hp2, _⟩ := hq2
          simp only at hu hp2 hrow
          subst hu
          have hd : dropO ⟨[1, 1 + ((q : Int) - p)], L⟩ 1 = (([], 0), ⟨[1, (q : Int) - p], L⟩) := by
            unfold dropO
            rw [hA, if_neg (by omega), if_pos (by omega), hP]
            congr 4; omega
          rw [hd] at hrow hp2
          simp -implicitDefEqProofs [hd, hrow.lenS, e5, e6]
          refine valA_of (hK.r.frames hp2.r (hO _ (by omega) (by omega)) 1) (fun u w3 hq3 => ?_)
          obtain ⟨hr3, hk3, _⟩ := hq3
          simp only at hr3 hk3
          have hfl : (framesA ⟨[1, (q : Int) - p], L⟩ 1).length = L.length := frames_len (hO _ (by omega) (by omega)) hall
          simp -implicitDefEqProofs [hr3.lenS, hfl, e7, e11, w1]
          refine ⟨q - (p + 1), by omega, p + 1, rfl, by omega, ?_, e5, e6, e9, by omega⟩
          have : (1 + ((q : Int) - ((p + 1 : Nat) : Int))) = (q : Int) - p := by omega
          rw [this]; exact hp2.keep hk3
        · have hpe : p = q := by omega
          subst hpe
          have h11 : (1 + ((p : Int) - p)) = 1 := by omega
          rw [h11] at hp'
          simp -implicitDefEqProofs [e5, e6, e9, e11]
          refine valA_of (hK.drop hp' (hO _ (by omega) (by omega)) (by omega) 1) (fun u w2 hq2 => ?_)
          obtain ⟨vr, hu, hrow, _, hp2, _⟩ := hq2
          simp only at hu hp2 hrow
          subst hu
          have hl1 : 0 < heldA ⟨[1, 1], L⟩ 1 := by rw [hA]; decide
          have hd : dropO ⟨[1, 1], L⟩ 1 = ((framesA ⟨[1, 1], L⟩ 1, 0), goneL ⟨[1, 1], L⟩ 1) := by
            unfold dropO
            rw [hA, if_neg (by omega), if_neg (by omega)]
          have hfl : (framesA ⟨[1, 1], L⟩ 1).length = L.length := frames_len hs hall
          have hg0 : heldA (goneL ⟨[1, 1], L⟩ 1) 1 = 0 := by rw [held_gone hl1, if_pos rfl]
          have hgok := gone_ok hs hl1
          rw [hd] at hrow hp2
          simp -implicitDefEqProofs [hd, e5, e6]
          refine valA_of (hK.drop hp2 hgok (by omega) 1) (fun u w3 hq3 => ?_)
          obtain ⟨vr3, hu, _, _, hp3, _⟩ := hq3
          simp only at hu hp3
          subst hu
          have hd2 : dropO (goneL ⟨[1, 1], L⟩ 1) 1 = (([], 6), goneL ⟨[1, 1], L⟩ 1) := by
            unfold dropO
            rw [hg0, if_pos (by omega)]
          rw [hd2] at hp3
          simp -implicitDefEqProofs [hd2, hrow.lenS, hfl, e5, e7]
          refine valA_of (hK.len hp3) (fun u w4 hq4 => ?_)
          obtain ⟨hu, hw⟩ := hq4
          simp only at hu hw
          subst hu hw
          have hln : lenA (goneL ⟨[1, 1], L⟩ 1) = 1 := rfl
          simp -implicitDefEqProofs [hln, e5, e6]
          refine valA_of (hK.hold hp3 hgok (by omega) 1) (fun u w5 hq5 => ?_)
          obtain ⟨hu, _⟩ := hq5
          simp only at hu
          subst hu
          have hfe : findE (goneL ⟨[1, 1], L⟩ 1) 1 = 6 := by unfold findE; rw [hg0, if_neg (by omega)]
          simp -implicitDefEqProofs [hfe]
      · exact ⟨0, rfl, Nat.zero_le _, by simpa using hp', by simp [e5], by simp [e6], by simp [e7], by simp [e9], by simp⟩
  · exact ⟨0, rfl, Nat.zero_le _, by simpa using hp, by simp [e5], by simp [e6], by simp [e7], by simp, by simp⟩

theorem run3 {K : Kont} {fuel : Nat} (hK : Objs K) (hf : 4000 ≤ fuel) {w : World} {h : Int} {v : Value} {xs : List Int} (hh : 0 ≤ h ∧ h < 256) (hv : IntsAt w v xs) (hfz : Froz w v) : wpGFn Try.prog K fuel 3 g3c #[.int .u8 h, v] w fun u _ => u = .bool true := by
  rw [gfn_start]
  simp -implicitDefEqProofs [g3c]
  refine valA_of (hK.new w) (fun u w1 hq => ?_)
  obtain ⟨b, l, r, hu, hp1, hk1⟩ := hq
  simp only at hu hp1 hk1
  subst hu
  have hs0 : (⟨[], []⟩ : OS).ok 0 := ⟨by simp, by simp, fun o ho => by simp at ho, Nat.le_refl _, fun h hh => by simp at hh⟩
  simp -implicitDefEqProofs [nil23]
  refine valA_of (hK.awake _) (fun u w2 hq => ?_)
  obtain ⟨hu, hw⟩ := hq
  simp only at hu hw
  subst hu hw
  simp -implicitDefEqProofs
  refine valA_of (hK.make hp1 hs0 (by omega)) (fun u w3 hq => ?_)
  obtain ⟨hu, ⟨x0, y0, hp3⟩, hk3⟩ := hq
  simp only at hu hp3 hk3
  subst hu
  have hs1 := make_ok hs0
  simp -implicitDefEqProofs
  refine valA_of (hK.make hp3 hs1 (by omega)) (fun u w4 hq => ?_)
  obtain ⟨hu, ⟨x1, y1, hp4⟩, hk4⟩ := hq
  simp only at hu hp4 hk4
  subst hu
  have hs2 := make_ok hs1
  have hm : makeA (makeA ⟨[], []⟩) = ⟨[1, 1], []⟩ := rfl
  have hlen1 : ((makeA ⟨[], []⟩).held.length : Int) = 1 := rfl
  rw [hm] at hp4 hs2
  have hkw : KeepT w w4 := (KeepT.of0 hk1).trans (hk3.trans hk4)
  generalize upd _ _ _ = pb at hp4
  generalize upd _ _ _ = pf at hp4
  simp -implicitDefEqProofs [hlen1]
  refine loop_go (fun i ρ w' => ∃ (q : Nat) (L : List On), i = 50 - q ∧ q ≤ 50 ∧ ObjAt w' b l r pb pf ⟨[1, 1], L⟩ ∧ (⟨[1, 1], L⟩ : OS).ok 2 ∧ (∀ o ∈ L, o.id = 1 ∧ o.frame < 10 + q) ∧ L.length ≤ q ∧ KeepT w w' ∧ ρ 0 = .int .u8 h ∧ ρ 1 = v ∧ ρ 5 = pt b ∧ ρ 6 = n64 1 ∧ ρ 7 = n64 L.length ∧ ρ 8 = n64 q) ?_ (i := 50) ?_ (by show 50 < fuel; omega)
  · rintro i ρ w' ⟨q, L, rfl, hq, hp', hs', hall, hL, hk', e0, e1, e5, e6, e7, e8⟩
    have w1 : IntKind.i64.wrap ((q : Int) + 1) = (q : Int) + 1 := by rw [IntKind.wrap_i64]; omega
    have w10 : IntKind.i64.wrap (10 + (q : Int)) = 10 + (q : Int) := by rw [IntKind.wrap_i64]; omega
    have wL : IntKind.i64.wrap ((L.length : Int) + 1) = (L.length : Int) + 1 := by rw [IntKind.wrap_i64]; omega
    have hv' : IntsAt w' v xs := elems_keepT hv Nat.one_pos hfz hk'
    by_cases h1 : q < xs.length
    · have h1' : (q : Int) < xs.length := by omega
      by_cases h2 : q < 50
      · have h2' : (q : Int) < 50 := by omega
        obtain ⟨bb, oo, cap, c, e, fz, hve, hc, hsz, hat⟩ := hv'.at h1
        have hget : ∀ h, c[oo + q]'h = n64 (xs[q]'h1) := fun h => by
          rw [Array.getElem?_eq_getElem h] at hat
          exact Option.some.inj hat
        simp -implicitDefEqProofs [e1, e5, e6, e8, hv'.lenS, h1', h2', hve, hc, hsz, hget, h1, w10]
        refine valA_of (hK.set hp' 1 xs[q] (10 + q)) (fun u w5 hq5 => ?_)
        obtain ⟨hu, hp5, hk5⟩ := hq5
        simp only at hu hp5 hk5
        subst hu
        rcases set_cases ⟨[1, 1], L⟩ 1 xs[q] (10 + q) with ⟨g1, g2⟩ | ⟨g1, g2, g3, g4, g5, g6⟩
        · rw [g2] at hp5
          simp -implicitDefEqProofs [g1, e8, w1]
          exact ⟨50 - (q + 1), by omega, q + 1, rfl, by omega, L, hp5, hs', fun o ho => ⟨(hall o ho).1, by have := (hall o ho).2; omega⟩, by omega, hk'.trans hk5, e0, by rw [e1, hve], e5, e6, e7, by omega⟩
        · rw [g1] at hp5
          simp -implicitDefEqProofs [g1, e7, e8, w1, wL]
          refine ⟨50 - (q + 1), by omega, q + 1, rfl, by omega, L ++ [(⟨1, xs[q], 10 + (q : Int)⟩ : On)], hp5, set_ok hs' g2 g3 g4 g5 g6, fun o ho => ?_, by simp; omega, hk'.trans hk5, e0, by rw [e1, hve], e5, e6, by simp, by omega⟩
          rw [List.mem_append, List.mem_singleton] at ho
          rcases ho with ho | rfl
          · exact ⟨(hall o ho).1, by have := (hall o ho).2; omega⟩
          · exact ⟨rfl, by simp; omega⟩
      · have : q = 50 := by omega
        subst this
        have h5 : (50 : Int) < xs.length := by omega
        simp -implicitDefEqProofs [e1, e8, hv'.lenS, h5]
        exact rest3 hK hf hh hp' hs' (fun o ho => (hall o ho).1) (by omega) (by simp [e0]) (by simp [e5]) (by simp [e6]) (by simp [e7])
    · have h1' : ¬ (q : Int) < xs.length := by omega
      simp -implicitDefEqProofs [e1, e8, hv'.lenS, h1']
      exact rest3 hK hf hh hp' hs' (fun o ho => (hall o ho).1) (by omega) (by simp [e0]) (by simp [e5]) (by simp [e6]) (by simp [e7])
  · exact ⟨0, [], rfl, by omega, hp4, hs2, fun o ho => by simp at ho, by simp, hkw, by simp, by simp, by simp, by simp, by simp, by simp⟩
end Go.Proofs.Ytkplodhjceieeaa
