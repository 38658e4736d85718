/-
  The operations side by side: slices cut and grown.
-/
import Derived.Test.YtplcocifndpplaaIk
namespace Go.Ideal
open Go

/-- Whatever the ideal run's choices come to, the real run comes to one of them. -/
def TSim {α α' : Type} (P : Program) (B : Nat) (w0 : Base) (β : Beta) (t : World → T (α × World)) (s' : Sem α') (A : Beta → α → α' → Prop) : Prop :=
  ∀ β1 σ w, β.le β1 → R P B w0 β1 σ w → ∀ Q, (t σ).all Q → ∃ β2 v σ' v' w', β1.le β2 ∧ s'.run P w = .ok v' w' ∧ R P B w0 β2 σ' w' ∧ A β2 v v' ∧ Q (v, σ')

section
variable {P : Program} {B : Nat} {w0 : Base} {β : Beta} {α α' γ γ' : Type} {A : Beta → α → α' → Prop} {C : Beta → γ → γ' → Prop}

theorem TSim.of_sim {s : Sem α} {s' : Sem α'} (h : Sim P B w0 β s s' A) : TSim P B w0 β (fun σ => ofRun (s.run P σ)) s' A := by
  intro β1 σ w hle hR Q hQ
  cases hs : s.run P σ with
  | halt x y => simp only [hs] at hQ; exact hQ.elim
  | ok v σ' =>
    simp only [hs] at hQ
    obtain ⟨β2, v', w', h1, h2, h3, h4⟩ := h β1 σ w hle hR v σ' hs
    exact ⟨β2, v, σ', v', w', h1, h2, h3, h4, hQ⟩

theorem TSim.bad {s' : Sem α'} : TSim P B w0 β (fun _ => (.bad : T (α × World))) s' A := fun _ _ _ _ _ _ hQ => hQ.elim

theorem TSim.map {t : World → T (α × World)} {s' : Sem α'} (h : TSim P B w0 β t s' A) {f : α → γ} {f' : α' → γ'} (hf : ∀ β1 v v', β.le β1 → A β1 v v' → C β1 (f v) (f' v')) :
    TSim P B w0 β (fun σ => (t σ).bind fun (v, w) => .ret (f v, w)) (do pure (f' (← s'))) C := by
  intro β1 σ w hle hR Q hQ
  obtain ⟨β2, v, σ', v', w', h1, h2, h3, h4, h5⟩ := h β1 σ w hle hR _ (T.all_bind.1 hQ)
  exact ⟨β2, f v, σ', f' v', w', h1, by simp [Sem.run_bind, h2, Result.andThen], h3, hf _ _ _ (hle.trans h1) h4, h5⟩

theorem run_bound_ok {k : IntKind} {i : Int} {y : Nat} {c : BoundsCode} (h0 : 0 ≤ i) (h1 : i ≤ y) (w : World) : (Instr.sliceBound (.int k i) y c).run P w = .ok i.toNat w := by
  simp [Instr.sliceBound, asIntOf, h0, h1, Sem.run_pure, Result.andThen]

theorem stillP_bound (x : Value) (y : Nat) (c : BoundsCode) (hx : ∀ a, x ≠ .pointer (some a)) : StillP (Instr.sliceBound x y c) P (fun n => n ≤ y) := by
  intro σ w v σ' hu
  obtain ⟨h1, h2⟩ := still_bound x y c hx σ w v σ' hu
  refine ⟨h1, h2, ?_⟩
  unfold Instr.sliceBound at hu
  rw [Sem.run_bind] at hu
  cases hs : (asIntOf x).run P σ with
  | halt a b => rw [hs] at hu; cases hu
  | ok p σ1 =>
    rw [hs] at hu
    obtain ⟨k, i⟩ := p
    simp only [Result.andThen] at hu
    split at hu
    · simp only [Sem.run_pure, Result.ok.injEq] at hu
      obtain ⟨rfl, _⟩ := hu
      omega
    · exact absurd hu (never_boundsPanic _ _ _ _ _ _ _)

def OVR (β : Beta) : Option Value → Option Value → Prop
  | none, none => True
  | some a, some b => VR β a b
  | _, _ => False

theorem sim_bound {x x' : Value} (h : VR β x x') (y : Nat) (c : BoundsCode) : Sim P B w0 β (Instr.sliceBound x y c) (Instr.sliceBound x' y c) (fun _ a b => a = b ∧ a ≤ y) := by
  cases h with
  | int k n =>
    intro β1 σ w hle hR u σ' hu
    obtain ⟨rfl, h2, h3⟩ := stillP_bound (.int k n) y c (fun a h => by cases h) σ w u σ' hu
    exact ⟨β1, u, w, .refl _, h2, hR, rfl, h3⟩
  | ptr _ => exact Sim.never (never_left (never_halt _))
  | _ => exact Sim.never (never_left (never_halt _))

theorem sim_sliceBounds {isS : Bool} {len cap : Nat} (hlc : len ≤ cap) {lo lo' hi hi' mx mx' : Option Value} (hlo : OVR β lo lo') (hhi : OVR β hi hi') (hmx : OVR β mx mx') :
    Sim P B w0 β (Instr.sliceBounds isS len cap lo hi mx) (Instr.sliceBounds isS len cap lo' hi' mx') (fun _ a b => a = b ∧ a.1 ≤ a.2.1 ∧ a.2.1 ≤ a.2.2 ∧ a.2.2 ≤ cap) := by
  unfold Instr.sliceBounds
  have last : ∀ {β1 : Beta} (h m : Nat) (s : Bool), h ≤ m → m ≤ cap → β.le β1 → Sim P B w0 β1
      (do
        let l ← match lo with
          | some v => Instr.sliceBound v h (if s then .slice3C else .sliceB)
          | none => pure 0
        pure (l, h, m))
      (do
        let l ← match lo' with
          | some v => Instr.sliceBound v h (if s then .slice3C else .sliceB)
          | none => pure 0
        pure (l, h, m)) (fun _ a b => a = b ∧ a.1 ≤ a.2.1 ∧ a.2.1 ≤ a.2.2 ∧ a.2.2 ≤ cap) := by
    intro β1 h m s hhm hmc hle
    cases lo with
    | none =>
      cases lo' with
      | some _ => exact hlo.elim
      | none => exact Sim.pure fun _ _ => ⟨rfl, Nat.zero_le _, hhm, hmc⟩
    | some v =>
      cases lo' with
      | none => exact hlo.elim
      | some v' =>
        refine Sim.bind (sim_bound (VR.mono hle hlo) h _) fun β2 a b hle2 e => ?_
        obtain ⟨rfl, e⟩ := e
        exact Sim.pure fun _ _ => ⟨rfl, e, hhm, hmc⟩
  cases mx with
  | none =>
    cases mx' with
    | some _ => exact hmx.elim
    | none =>
      refine Sim.bind (Sim.pure (A := fun _ a b => a = b ∧ a = cap) (v := cap) (v' := cap) fun _ _ => ⟨rfl, rfl⟩) fun β0 m m' hle0 e => ?_
      obtain ⟨rfl, rfl⟩ := e
      cases hi with
      | none =>
        cases hi' with
        | some _ => exact hhi.elim
        | none =>
          refine Sim.bind (Sim.pure (A := fun _ a b => a = b ∧ a = len) (v := len) (v' := len) fun _ _ => ⟨rfl, rfl⟩) fun β1 h h' hle1 e => ?_
          obtain ⟨rfl, rfl⟩ := e
          exact last _ _ _ hlc (Nat.le_refl _) (hle0.trans hle1)
      | some v =>
        cases hi' with
        | none => exact hhi.elim
        | some v' =>
          refine Sim.bind (sim_bound (VR.mono hle0 hhi) _ _) fun β2 a b hle2 e => ?_
          obtain ⟨rfl, e⟩ := e
          exact last a _ _ e (Nat.le_refl _) (hle0.trans hle2)
  | some mv =>
    cases mx' with
    | none => exact hmx.elim
    | some mv' =>
      dsimp only
      refine Sim.bind (sim_bound hmx cap _) fun β1 m m' hle1 e => ?_
      obtain ⟨rfl, em⟩ := e
      cases hi with
      | none =>
        cases hi' with
        | some _ => exact hhi.elim
        | none => exact Sim.stuck
      | some v =>
        cases hi' with
        | none => exact hhi.elim
        | some v' =>
          refine Sim.bind (sim_bound (VR.mono hle1 hhi) m _) fun β2 a b hle2 e => ?_
          obtain ⟨rfl, e⟩ := e
          exact last a m _ e em (hle1.trans hle2)

theorem Addr.add_off (b o n : Nat) : (⟨b, o, none⟩ : Addr).add n = ⟨b, o + n, none⟩ := by
  unfold Addr.add
  split
  · rename_i h; subst h; rfl
  · rfl

/-- Slices with a known end, nil ones, strings. -/
theorem sim_sliceAt {t : TypeId} {x x' : Value} (hx : VR β x x') (hc : (∃ a l c, x = .slice a l c ∧ c < OPEN) ∨ ∃ s, x = .string s) (ht : (∃ e, P.underlying t = some (.slice e)) ∨ P.underlying t = some .string)
    {lo lo' hi hi' mx mx' : Option Value} (hlo : OVR β lo lo') (hhi : OVR β hi hi') (hmx : OVR β mx mx') :
    Sim P B w0 β (Instr.sliceAt t x lo hi mx) (Instr.sliceAt t x' lo' hi' mx') VR := by
  unfold Instr.sliceAt
  refine Sim.under fun d hd => ?_
  have hd' : (∃ e, d = .slice e) ∨ d = .string := by
    rcases ht with ⟨e, he⟩ | he
    · rw [he] at hd; simp only [Option.some.injEq] at hd; exact .inl ⟨e, hd.symm⟩
    · rw [he] at hd; simp only [Option.some.injEq] at hd; exact .inr hd.symm
  have go : Sim P B w0 β (Instr.slice t x lo hi mx) (Instr.slice t x' lo' hi' mx') VR := by
    unfold Instr.slice
    refine Sim.under fun d2 hd2 => ?_
    rw [hd] at hd2
    simp only [Option.some.injEq] at hd2
    subst hd2
    rcases hd' with ⟨e, rfl⟩ | rfl
    · cases hx with
      | nilSlice =>
        dsimp only
        refine Sim.bind (sim_sliceBounds (Nat.le_refl _) hlo hhi hmx) fun β1 p q hle e => ?_
        obtain ⟨rfl, h1, h2, h3⟩ := e
        obtain ⟨l, h, m⟩ := p
        refine Sim.still (still_sizeOf _) fun s => Sim.pure fun β2 hle2 => ?_
        simp only at h1 h2 h3
        have hm : m = 0 := by omega
        have hh : h = 0 := by omega
        have hl : l = 0 := by omega
        subst hm; subst hh; subst hl
        exact .nilSlice
      | @slice b o len cap o' cap' bi hb hs =>
        have hcap : cap < OPEN := by
          rcases hc with ⟨a, l, c, e, hc⟩ | ⟨s, e⟩
          · simp only [Value.slice.injEq] at e
            obtain ⟨_, _, rfl⟩ := e
            exact hc
          · cases e
        rcases hs with ⟨_, rfl, hlen, ho⟩ | ⟨h1, _⟩ | ⟨h1, _⟩
        · dsimp only
          refine Sim.bind (sim_sliceBounds hlen hlo hhi hmx) fun β1 p q hle e => ?_
          obtain ⟨rfl, h1, h2, h3⟩ := e
          obtain ⟨l, h, m⟩ := p
          simp only at h1 h2 h3
          refine Sim.still (still_sizeOf _) fun s => Sim.pure fun β2 hle2 => ?_
          simp only [Option.map_some, Addr.add_off]
          by_cases hml : m = l
          · rw [if_pos hml, if_pos hml]
            exact .slice (hle2 _ _ (hle _ _ hb)) (.inl ⟨by omega, rfl, by omega, .inr (by omega)⟩)
          · rw [if_neg hml, if_neg hml]
            exact .slice (hle2 _ _ (hle _ _ hb)) (.inl ⟨by omega, rfl, by omega, .inl (by omega)⟩)
        · omega
        · omega
      | _ => exact Sim.stuck
    · cases hx with
      | string s =>
        dsimp only
        cases mx with
        | some v => exact Sim.never (by simp only [Option.isSome_some, if_true]; exact never_left (never_halt _))
        | none =>
          cases mx' with
          | some _ => exact hmx.elim
          | none =>
            simp only [Option.isSome_none, Bool.false_eq_true, if_false]
            refine Sim.bind (sim_sliceBounds (Nat.le_refl _) hlo hhi hmx) fun β1 p q hle e => ?_
            obtain ⟨rfl, _⟩ := e
            exact Sim.pure fun _ _ => VR.string _
      | _ => exact Sim.stuck
  rcases hd' with ⟨e, rfl⟩ | rfl
  · exact go
  · exact go
end
end Go.Ideal
