/-
  The operations side by side: slices that grew.
-/
import Derived.Test.YtplcocifndpplaaIl
namespace Go.Ideal
open Go
section
variable {P : Program} {B : Nat} {w0 : Base} {β : Beta}

theorem bound?_spec {β : Beta} {v v' : Option Value} {d n : Nat} (h : OVR β v v') (hb : bound? v d = some n) :
    (v = none ∧ v' = none ∧ n = d) ∨ ∃ k i, v = some (.int k i) ∧ v' = some (.int k i) ∧ 0 ≤ i ∧ n = i.toNat := by
  cases v with
  | none =>
    cases v' with
    | some _ => exact h.elim
    | none => simp [bound?] at hb; exact .inl ⟨rfl, rfl, hb.symm⟩
  | some x =>
    cases v' with
    | none => exact h.elim
    | some x' =>
      cases h with
      | int k i =>
        simp only [bound?] at hb
        split at hb
        · simp only [Option.some.injEq] at hb
          exact .inr ⟨k, i, rfl, rfl, by assumption, hb.symm⟩
        · cases hb
      | _ => simp [bound?] at hb

/-- What the bounds of a cut come to. -/
theorem run_sliceBounds {isS : Bool} {len cap l h : Nat} {lo lo' hi hi' : Option Value} (hlo : OVR β lo lo') (hhi : OVR β hi hi') (el : bound? lo 0 = some l) (eh : bound? hi len = some h)
    (hlh : l ≤ h) (hhc : h ≤ cap) (w : World) : (Instr.sliceBounds isS len cap lo' hi' none).run P w = .ok (l, h, cap) w := by
  have h1 := bound?_spec hlo el
  have h2 := bound?_spec hhi eh
  unfold Instr.sliceBounds
  rcases h1 with ⟨_, rfl, rfl⟩ | ⟨k1, i1, _, rfl, g1, rfl⟩ <;> rcases h2 with ⟨_, rfl, rfl⟩ | ⟨k2, i2, _, rfl, g2, rfl⟩
  · simp only [Sem.run_bind, Sem.run_pure, Result.andThen]
  · simp only [Sem.run_bind, Sem.run_pure, Result.andThen]
    rw [run_bound_ok g2 (by omega)]
  · simp only [Sem.run_bind, Sem.run_pure, Result.andThen]
    rw [run_bound_ok g1 (by omega)]
  · simp only [Sem.run_bind, Sem.run_pure, Result.andThen]
    rw [run_bound_ok g2 (by omega)]
    simp only [Sem.run_pure, Result.andThen]
    rw [run_bound_ok g1 (by omega)]

theorem run_sliceBounds3 {isS : Bool} {len cap l h m : Nat} {lo lo' hi hi' : Option Value} {k3 : IntKind} {i3 : Int} (hlo : OVR β lo lo') (hhi : OVR β hi hi') (el : bound? lo 0 = some l) (eh : bound? hi len = some h)
    (his : hi.isSome = true) (h3 : 0 ≤ i3) (em : i3.toNat = m) (hlh : l ≤ h) (hhm : h ≤ m) (hmc : m ≤ cap) (w : World) :
    (Instr.sliceBounds isS len cap lo' hi' (some (.int k3 i3))).run P w = .ok (l, h, m) w := by
  have h1 := bound?_spec hlo el
  have h2 := bound?_spec hhi eh
  unfold Instr.sliceBounds
  rcases h2 with ⟨rfl, _, _⟩ | ⟨k2, i2, _, rfl, g2, rfl⟩
  · cases his
  · rcases h1 with ⟨_, rfl, rfl⟩ | ⟨k1, i1, _, rfl, g1, rfl⟩
    · simp only [Sem.run_bind]
      rw [run_bound_ok h3 (by omega)]
      simp only [Result.andThen]
      rw [em, run_bound_ok g2 (by omega)]
      simp only [Sem.run_pure, Result.andThen]
    · simp only [Sem.run_bind]
      rw [run_bound_ok h3 (by omega)]
      simp only [Result.andThen]
      rw [em, run_bound_ok g2 (by omega)]
      simp only [Sem.run_pure, Result.andThen]
      rw [run_bound_ok g1 (by omega)]

theorem tsim_isliceOpen {t elem : TypeId} (ht : P.underlying t = some (.slice elem)) {a : Addr} {len : Nat} {x' : Value} (hx : VR β (.slice (some a) len OPEN) x')
    {lo lo' hi hi' mx mx' : Option Value} (hlo : OVR β lo lo') (hhi : OVR β hi hi') (hmx : OVR β mx mx') :
    TSim P B w0 β (isliceOpen P elem a len lo hi mx) (Instr.sliceAt t x' lo' hi' mx') VR := by
  cases hx with
  | @slice b o _ cap o' cap' bi hb hs =>
  rcases hs with ⟨h1, _⟩ | ⟨_, hes, hs⟩ | ⟨h1, _⟩
  · exact absurd h1 (Nat.lt_irrefl _)
  rotate_left
  · exact absurd h1 (Nat.lt_irrefl _)
  intro β1 σ w hle hR Q hQ
  unfold isliceOpen at hQ
  split at hQ
  · rename_i i l h c e hie hl hh hc
    split at hQ
    · rename_i hcond
      obtain ⟨rfl, _, hlh, hsz⟩ := hcond
      have hb1 := hle _ _ hb
      have hn : c.size = bi.n ∧ i.size = bi.es := by
        obtain ⟨ob, _, hor⟩ := hR.obj _ _ _ hc hb1 rfl
        refine ⟨?_, hR.esz _ _ _ _ _ hc rfl hb1 i hie⟩
        cases hor; assumption
      obtain ⟨hcn, hies⟩ := hn
      have hrun : ∀ {l h m : Nat}, (Instr.sliceBounds true len cap' lo' hi' mx').run P w = .ok (l, h, m) w →
          (Instr.sliceAt t (.slice (some ⟨bi.r, o', none⟩) len cap') lo' hi' mx').run P w = .ok (.slice (some (if m = l then ⟨bi.r, o', none⟩ else ⟨bi.r, o' + l * i.size, none⟩)) (h - l) (m - l)) w := by
        intro l h m hr
        unfold Instr.sliceAt Instr.slice
        simp only [Sem.run_bind, run_underlying' ht, Result.andThen, hr, run_sizeOf' hie, Sem.run_pure]
        simp only [Option.map_some, Addr.add_off]
        split <;> rfl
      split at hQ
      · -- no third index
        split at hQ
        · rename_i hhl
          have hmx' : mx' = none := by cases mx' <;> first | rfl | exact hmx.elim
          subst hmx'
          rcases hs with ⟨rfl, g1, g2, g3⟩ | ⟨rfl, rfl, g1⟩
          · have hr := run_sliceBounds (P := P) (isS := true) (cap := cap') hlo hhi hl hh hlh (by omega) w
            refine ⟨β1, _, σ, _, w, .refl _, hrun hr, hR, ?_, hQ⟩
            by_cases hcl : cap' = l
            · rw [if_pos hcl]
              refine .slice hb1 (.inr (.inl ⟨rfl, hes, .inr ⟨by omega, by omega, ?_⟩⟩))
              rw [hies, ← hcl]; exact g1
            · rw [if_neg hcl]
              have hmul : l * bi.es + (cap' - l) * bi.es = cap' * bi.es := by rw [← Nat.add_mul]; congr 1; omega
              refine .slice hb1 (.inr (.inl ⟨rfl, hes, .inl ⟨by simp only; omega, by simp only [hies]; omega, by omega, by simp only [hies]; omega⟩⟩))
          · have hr := run_sliceBounds (P := P) (isS := true) (cap := 0) hlo hhi hl hh hlh (by omega) w
            refine ⟨β1, _, σ, _, w, .refl _, hrun hr, hR, ?_, hQ⟩
            have hl0 : l = 0 := by omega
            rw [if_pos hl0.symm]
            refine .slice hb1 (.inr (.inl ⟨rfl, hes, .inr ⟨by omega, by omega, ?_⟩⟩))
            rw [hl0]; simpa using g1
        · exact hQ.elim
      · -- a third index
        rename_i k3 mi
        split at hQ
        · rename_i hm
          obtain ⟨h0, hhm, hmc, his, hmO⟩ := hm
          have hmx' : mx' = some (.int k3 mi) := by
            cases mx' with
            | none => exact hmx.elim
            | some v => cases hmx; rfl
          subst hmx'
          have hmcap : mi.toNat ≤ cap' := by
            rcases hs with ⟨rfl, g1, g2, g3⟩ | ⟨rfl, rfl, g1⟩
            · refine Nat.le_of_mul_le_mul_right (c := bi.es) ?_ hes
              simp only [hies] at hmc
              omega
            · simp only [hies] at hmc
              have : mi.toNat * bi.es = 0 := by omega
              rcases Nat.mul_eq_zero.1 this with h | h <;> omega
          have hr := run_sliceBounds3 (P := P) (isS := true) (cap := cap') (k3 := k3) hlo hhi hl hh his h0 rfl hlh hhm hmcap w
          refine ⟨β1, _, σ, _, w, .refl _, hrun hr, hR, ?_, hQ⟩
          by_cases hml : mi.toNat = l
          · rw [if_pos hml, if_pos hml]
            exact .slice hb1 (.inl ⟨by omega, rfl, by omega, .inr (by omega)⟩)
          · rw [if_neg hml, if_neg hml]
            refine .slice hb1 (.inl ⟨by omega, rfl, by omega, .inl ?_⟩)
            rcases hs with ⟨rfl, g1, g2, g3⟩ | ⟨rfl, rfl, g1⟩
            · simp only; omega
            · exfalso
              omega
        · exact hQ.elim
      · exact hQ.elim
    · exact hQ.elim
  · exact hQ.elim

theorem tsim_islice {t : TypeId} {x x' : Value} (hx : VR β x x') {lo lo' hi hi' mx mx' : Option Value} (hlo : OVR β lo lo') (hhi : OVR β hi hi') (hmx : OVR β mx mx') :
    TSim P B w0 β (islice P t x lo hi mx) (Instr.sliceAt t x' lo' hi' mx') VR := by
  unfold islice
  cases hu : P.underlying t with
  | none => exact TSim.bad
  | some d =>
    cases d with
    | slice elem =>
      cases x with
      | slice a len cap =>
        cases a with
        | none => exact TSim.of_sim (sim_sliceAt hx (.inl ⟨none, len, cap, rfl, by cases hx; exact Nat.zero_lt_of_lt (show 0 < OPEN by unfold OPEN; omega)⟩) (.inl ⟨elem, hu⟩) hlo hhi hmx)
        | some a =>
          dsimp only
          by_cases hc : cap < OPEN
          · simp only [hc, if_true]
            exact TSim.of_sim (sim_sliceAt hx (.inl ⟨_, len, cap, rfl, hc⟩) (.inl ⟨elem, hu⟩) hlo hhi hmx)
          · simp only [hc, if_false]
            by_cases he : cap = OPEN
            · subst he
              simp only [if_true]
              exact tsim_isliceOpen hu hx hlo hhi hmx
            · simp only [he, if_false]
              exact TSim.bad
      | _ => exact TSim.bad
    | string =>
      cases x with
      | string s => exact TSim.of_sim (sim_sliceAt hx (.inr ⟨s, rfl⟩) (.inr hu) hlo hhi hmx)
      | _ => exact TSim.bad
    | _ => exact TSim.bad
end
end Go.Ideal
