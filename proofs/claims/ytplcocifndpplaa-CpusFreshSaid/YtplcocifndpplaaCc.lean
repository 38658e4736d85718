/-
  Processors: how the program's lie in memory.
-/
import Derived.Test.YtplcocifndpplaaCb
namespace Go.Proofs.Ytplcocifndpplaa
open Go Go.Ideal

theorem callF (f : Nat) (h : (Try.prog.funcs[f]?).any (fun fn => fn.body.isSome && fn.name != "runtime.NumGoroutine") = true) (K : Kont) (args cap : Array Value) (w : World) : callV Try.prog K (.func (.func f) #[] cap) args w = K.enter f (args ++ cap) w := by
  unfold callV
  simp only [h, and_self, Array.size_empty, if_true]
theorem body66 : (Try.prog.funcs[66]?).any (fun fn => fn.body.isSome && fn.name != "runtime.NumGoroutine") = true := by kernel_rfl
theorem nilNe {P : Program} {t : TypeId} {o1 o2 : Operand} {p : Option Addr} {w : World} (hu : P.underlying t = some (.pointer (P.pointee t))) (he : eqTy P 5 t = true) : binS P .neq t o1 o2 (.pointer p) (.pointer none) w = .ret (.bool (!p.isNone), w) := by
  have hf : binFit P .neq t (.pointer p) (.pointer none) = true := by cases p <;> simp [binFit, he, eqFit]
  unfold binS
  simp only [hf, if_true]
  rw [eqGuard_none _ _ _ _ _ _ (fun _ h => by cases h) (fun h => by cases h)]
  have h1 := run_eql_pointer_nil w t p hu
  have h2 : (binOp .neq t (.pointer p) (.pointer none)).run P w = .ok (.bool (!p.isNone)) w := by
    have e1 : binOp .neq t (.pointer p) (.pointer none) = (do pure (.bool (!(← Op.equal t (.pointer p) (.pointer none))))) := rfl
    have e2 : binOp .eql t (.pointer p) (.pointer none) = (do pure (.bool (← Op.equal t (.pointer p) (.pointer none)))) := rfl
    rw [e2] at h1
    rw [e1]
    simp only [Sem.run_bind, Result.andThen] at h1 ⊢
    cases hq : (Op.equal t (.pointer p) (.pointer none)).run P w with
    | ok b w' => rw [hq] at h1; simp only [Sem.run_pure] at h1 ⊢; simp only [Result.ok.injEq, Value.bool.injEq] at h1; obtain ⟨rfl, rfl⟩ := h1; rfl
    | halt e w' => rw [hq] at h1; cases h1
  simp only [Sem.run_bind, Sem.run_pure, Result.andThen, h2, ofRun]
theorem nil57 {o1 o2 : Operand} {p : Option Addr} {w : World} : binS Try.prog .eql 57 o1 o2 (.pointer p) (.pointer none) w = .ret (.bool p.isNone, w) := nilEq (by kernel_rfl) (by kernel_rfl)
theorem nil71 {o1 o2 : Operand} {p : Option Addr} {w : World} : binS Try.prog .eql 71 o1 o2 (.pointer p) (.pointer none) w = .ret (.bool p.isNone, w) := nilEq (by kernel_rfl) (by kernel_rfl)
theorem nil102 {o1 o2 : Operand} {p : Option Addr} {w : World} : binS Try.prog .eql 102 o1 o2 (.pointer p) (.pointer none) w = .ret (.bool p.isNone, w) := nilEq (by kernel_rfl) (by kernel_rfl)
theorem nilN71 {o1 o2 : Operand} {p : Option Addr} {w : World} : binS Try.prog .neq 71 o1 o2 (.pointer p) (.pointer none) w = .ret (.bool (!p.isNone), w) := nilNe (by kernel_rfl) (by kernel_rfl)
theorem nilN102 {o1 o2 : Operand} {p : Option Addr} {w : World} : binS Try.prog .neq 102 o1 o2 (.pointer p) (.pointer none) w = .ret (.bool (!p.isNone), w) := nilNe (by kernel_rfl) (by kernel_rfl)
theorem under91 : Try.prog.underlying 91 = some (.map 3 102) := by kernel_rfl

/-- Pointers to blocks, in a row. -/
def EP (te : TypeId) : En Nat := ⟨1, te, fun b => [ptr b], fun _ => rfl, fun _ v hv => by simp at hv; subst hv; rfl, Nat.one_pos⟩
def EF : En Fl := ⟨2, 107, fun f => [i64 f.p, i64 f.n], fun _ => rfl, fun _ v hv => by simp at hv; rcases hv with rfl | rfl <;> rfl, by decide⟩
theorem _root_.Go.Ideal.RowE.ptr {te : TypeId} {w : World} {v : Value} {xs : List Nat} (h : RowE (EP te) w v xs) {i : Nat} (hi : i < xs.length) :
    ∃ b o cap c, v = .slice (some ⟨b, o, none⟩) xs.length cap ∧ cellsOf? w b = some (c, te, (0, 0)) ∧ o + i < c.size ∧ c[o + i]? = some (Proofs.Ytplcocifndpplaa.ptr xs[i]) := by
  obtain ⟨b, o, cap, c, h1, h2, h3, _, h5⟩ := h.at hi
  have h5 := h5 0 Nat.one_pos
  simp only [EP, Nat.mul_one, Nat.add_zero] at h3 h5
  exact ⟨b, o, cap, c, h1, h2, by omega, h5⟩

/-- Where they lie. -/
structure Ad where
  sm : Nat
  v : Value
  pc : Nat → Nat
  pb : Nat → Nat
  ps : Nat → Nat
  px : Int → Nat
  pv : Int → Value

structure CpuAt (w : World) (c : Nat) (a : Ad) (s : CS) : Prop where
  cell : cellsOf? w c = some (#[a.v, .map (some a.sm)], 94, (0, 0))
  row : RowE (EP 95) w a.v ((List.range s.N).map a.pc)
  cpu : ∀ i, i < s.N → cellsOf? w (a.pc i) = some (#[ptr (a.pb i), .map (some (a.ps i))], 98, (0, 0))
  buf : ∀ i, i < s.N → Buf w 89 (a.pb i) s.size (s.L i)
  seen : ∀ i, i < s.N → ∃ m, MapAt w (a.ps i) m ∧ ∀ sp, (getM m sp).getD (i64 0) = i64 (s.seen i sp)
  sm : ∃ m, MapAt w a.sm m ∧ ∀ sp, getM m sp = if 0 < s.time sp then some (ptr (a.px sp)) else none
  spc : ∀ sp, 0 < s.time sp → cellsOf? w (a.px sp) = some (#[i64 (s.time sp), a.pv sp], 105, (0, 0)) ∧ RowE EF w (a.pv sp) ((flo s.A sp).drop (s.time sp - 8))
  injs : ∀ i j, i < s.N → j < s.N → a.ps i = a.ps j → i = j
  nes : ∀ i, i < s.N → a.ps i ≠ a.sm
  injx : ∀ p q, 0 < s.time p → 0 < s.time q → a.px p = a.px q → p = q
  injv : ∀ p q b, 0 < s.time p → 0 < s.time q → blkOf (a.pv p) = some b → blkOf (a.pv q) = some b → p = q
  apart : ∀ i j, i < s.N → j < s.N → i ≠ j → ∀ b, foot w (a.pb i) b → ¬ foot w (a.pb j) b

/-- The blocks of buffers hold buffers and lines. -/
theorem Buf.tag {w : World} {e : TypeId} {b : Nat} {size : Int} {ls : List Line} (h : Buf w e b size ls) {j : Nat} (hj : foot w b j) : ∃ c t, cellsOf? w j = some (c, t, (0, 0)) ∧ (t = e ∨ t = 31) := by
  obtain ⟨v, hv, hl, _⟩ := h
  rcases hj with rfl | ⟨s, u, e', fz, hc, hu⟩
  · exact ⟨_, _, hv, .inl rfl⟩
  · rw [hv] at hc
    simp only [Option.some.injEq, Prod.mk.injEq] at hc
    have : u = v := by
      have h2 := congrArg (fun a => a[1]?) hc.1
      simpa using h2.symm
    subst this
    rcases hl with ⟨rfl, _⟩ | ⟨b', o, cap, c, rfl, hc', _⟩
    · cases hu
    · simp only [blockOf, Option.some.injEq] at hu; subst hu; exact ⟨_, _, hc', .inr rfl⟩

theorem _root_.Go.Ideal.RowE.tag {α : Type} {E : En α} {w : World} {v : Value} {xs : List α} (h : RowE E w v xs) {j : Nat} (hj : blkOf v = some j) : ∃ c, cellsOf? w j = some (c, E.te, (0, 0)) := by
  rcases h with ⟨rfl, _⟩ | ⟨b', o, cap, c, rfl, hc, _⟩
  · cases hj
  · simp only [blkOf, Option.some.injEq] at hj; subst hj; exact ⟨_, hc⟩

/-- Blocks that belong to processors: none of them is written elsewhere. -/
def Mine (w : World) (N : Nat) (pb : Nat → Nat) (T : TypeId → Prop) (M : Prop) (b : Nat) : Prop := (∃ i, i < N ∧ foot w (pb i) b) ∨ (M ∧ cellsOf? w b = none) ∨ ∃ c t, cellsOf? w b = some (c, t, (0, 0)) ∧ T t
/-- The program's: all of theirs; and what calls write. -/
def TC (t : TypeId) : Prop := t = 94 ∨ t = 95 ∨ t = 98 ∨ t = 105 ∨ t = 107
def TW (t : TypeId) : Prop := t = 105 ∨ t = 107

theorem CpuAt.keepM {w w' : World} {c : Nat} {a : Ad} {s : CS} {G : Nat → Prop} (h : CpuAt w c a s) (hk : Keeps w w' G) (hG : ∀ b, Mine w s.N a.pb TC False b → ¬ G b) (hM : ∀ b m, MapAt w b m → ¬ G b) : CpuAt w' c a s ∧ ∀ i, i < s.N → ∀ b, foot w' (a.pb i) b ↔ foot w (a.pb i) b := by
  have hT : ∀ {b c t}, cellsOf? w b = some (c, t, (0, 0)) → TC t → ¬ G b := fun hc ht => hG _ (.inr (.inr ⟨_, _, hc, ht⟩))
  have hM : ∀ {b m}, MapAt w b m → ¬ G b := fun hm => hM _ _ hm
  have hb : ∀ i, i < s.N → Buf w' 89 (a.pb i) s.size (s.L i) ∧ ∀ b, foot w' (a.pb i) b ↔ foot w (a.pb i) b := fun i hi => (h.buf i hi).keep hk (fun j hj => hG j (.inl ⟨i, hi, hj⟩))
  refine ⟨⟨hk.cells h.cell (hT h.cell (.inl rfl)), h.row.keep hk (fun b hb => ?_), fun i hi => hk.cells (h.cpu i hi) (hT (h.cpu i hi) (.inr (.inr (.inl rfl)))), fun i hi => (hb i hi).1, fun i hi => ?_, ?_, fun sp hp => ?_, h.injs, h.nes, h.injx, h.injv, fun i j hi hj hne b h1 h2 => ?_⟩, fun i hi => (hb i hi).2⟩
  · obtain ⟨_, hc⟩ := h.row.tag hb
    exact hT hc (.inr (.inl rfl))
  · obtain ⟨m, h1, h2⟩ := h.seen i hi
    exact ⟨m, h1.keep hk (hM h1), h2⟩
  · obtain ⟨m, h1, h2⟩ := h.sm
    exact ⟨m, h1.keep hk (hM h1), h2⟩
  · obtain ⟨h1, h2⟩ := h.spc sp hp
    refine ⟨hk.cells h1 (hT h1 (.inr (.inr (.inr (.inl rfl))))), h2.keep hk (fun b hb => ?_)⟩
    obtain ⟨_, hc⟩ := h2.tag hb
    exact hT hc (.inr (.inr (.inr (.inr rfl))))
  · exact h.apart i j hi hj hne b (((hb i hi).2 b).1 h1) (((hb j hj).2 b).1 h2)

theorem CpuAt.keep {w w' : World} {c : Nat} {a : Ad} {s : CS} {G : Nat → Prop} (h : CpuAt w c a s) (hk : Keeps w w' G) (hG : ∀ b, Mine w s.N a.pb TC True b → ¬ G b) : CpuAt w' c a s ∧ ∀ i, i < s.N → ∀ b, foot w' (a.pb i) b ↔ foot w (a.pb i) b :=
  h.keepM hk (fun b hb => hG b (hb.imp (fun h => h) fun h => h.imp (fun h => h.1.elim) fun h => h)) fun b _ hm => hG b (.inr (.inl ⟨trivial, hm.nocells⟩))

/-- What a call moves. -/
def MoveC (w w' : World) (N : Nat) (pb : Nat → Nat) (T : TypeId → Prop) (M : Prop) : Prop := Keeps w w' (Mine w N pb T M) ∧ ∀ i, i < N → ∀ b, foot w' (pb i) b → foot w (pb i) b ∨ w.heap.size ≤ b
theorem MoveC.refl (w : World) (N : Nat) (pb : Nat → Nat) (T : TypeId → Prop) (M : Prop) : MoveC w w N pb T M := ⟨Keeps.refl _ _, fun _ _ _ h => .inl h⟩
theorem MoveC.trans {a b c : World} {N : Nat} {pb : Nat → Nat} {T : TypeId → Prop} {M : Prop} (h : MoveC a b N pb T M) (k : MoveC b c N pb T M) : MoveC a c N pb T M := by
  refine ⟨h.1.trans k.1 (fun _ _ h => h) (fun j hj hm => ?_), fun i hi j hj => ?_⟩
  · refine Classical.byContradiction fun hn => ?_
    rcases hm with ⟨i, hi, hf⟩ | ⟨hM, hc⟩ | ⟨x, t, hc, ht⟩
    · rcases h.2 i hi j hf with g | g
      · exact hn (.inl ⟨i, hi, g⟩)
      · omega
    · cases h0 : cellsOf? a j with
      | none => exact hn (.inr (.inl ⟨hM, h0⟩))
      | some x => rw [h.1.cells h0 hn] at hc; cases hc
    · cases h0 : cellsOf? a j with
      | none =>
        have hat := h.1.2 j hj hn
        have : cellsOf? b j = cellsOf? a j := by unfold cellsOf?; rw [hat]
        rw [this, h0] at hc; cases hc
      | some y =>
        have h1 := h.1.cells h0 hn
        rw [h1] at hc
        simp only [Option.some.injEq] at hc
        subst hc
        exact hn (.inr (.inr ⟨x, t, h0, ht⟩))
  · rcases k.2 i hi j hj with g | g
    · exact h.2 i hi j g
    · exact .inr (Nat.le_trans h.1.1 g)
theorem MoveC.of {w w' : World} {N : Nat} {pb : Nat → Nat} {T : TypeId → Prop} {M : Prop} {F : Nat → Prop} (hk : Keeps w w' F) (hF : ∀ b, F b → Mine w N pb T M b) (hf : ∀ i, i < N → ∀ b, foot w' (pb i) b → foot w (pb i) b ∨ w.heap.size ≤ b) : MoveC w w' N pb T M := ⟨hk.mono fun b _ h => hF b h, hf⟩
theorem MoveC.new {w w' : World} {c : Nat} {a : Ad} {s : CS} {T : TypeId → Prop} {M : Prop} (h : CpuAt w c a s) (hk : Keeps w w' (fun _ => False)) : MoveC w w' s.N a.pb T M :=
  ⟨hk.mono fun _ _ h => h.elim, fun i hi b hb => .inl (((h.keep hk (fun _ _ h => h)).2 i hi b).1 hb)⟩

/-- One processor's buffer is moved. -/
def One (w w' : World) (a : Ad) (i : Nat) (F : Nat → Prop) : Prop := Keeps w w' (fun b => foot w (a.pb i) b ∨ F b) ∧ ∀ b, foot w' (a.pb i) b → foot w (a.pb i) b ∨ w.heap.size ≤ b
theorem One.trans {a b c : World} {x : Ad} {i : Nat} {F : Nat → Prop} (h : One a b x i F) (k : One b c x i F) : One a c x i F := by
  refine ⟨h.1.trans k.1 (fun _ _ h => h) (fun j hj hm => ?_), fun j hj => ?_⟩
  · rcases hm with g | g
    · rcases h.2 j g with g | g
      · exact .inl g
      · omega
    · exact .inr g
  · rcases k.2 j hj with g | g
    · exact h.2 j g
    · exact .inr (Nat.le_trans h.1.1 g)
theorem One.refl (w : World) (a : Ad) (i : Nat) (F : Nat → Prop) : One w w a i F := ⟨Keeps.refl _ _, fun _ h => .inl h⟩
theorem One.mono {w w' : World} {a : Ad} {i : Nat} {F G : Nat → Prop} (h : One w w' a i F) (hF : ∀ b, F b → G b) : One w w' a i G := ⟨h.1.mono fun _ _ h => h.imp (fun h => h) (hF _), h.2⟩
theorem One.new {w w' : World} {c : Nat} {a : Ad} {s : CS} {i : Nat} {F : Nat → Prop} (h : CpuAt w c a s) (hi : i < s.N) (hk : Keeps w w' (fun _ => False)) : One w w' a i F :=
  ⟨hk.mono fun _ _ h => h.elim, fun b hb => .inl (((h.keep hk (fun _ _ h => h)).2 i hi b).1 hb)⟩
theorem One.move {w w' : World} {c : Nat} {a : Ad} {s : CS} {i : Nat} {F : Nat → Prop} {T : TypeId → Prop} {M : Prop} (h : CpuAt w c a s) (hi : i < s.N) (ho : One w w' a i F) (hF : ∀ b, F b → Mine w s.N a.pb T M b ∧ ∀ j, j < s.N → ¬ foot w (a.pb j) b) : MoveC w w' s.N a.pb T M := by
  refine ⟨ho.1.mono fun b _ hb => hb.elim (fun h => .inl ⟨i, hi, h⟩) (fun h => (hF b h).1), fun j hj b hb => ?_⟩
  by_cases he : j = i
  · subst he; exact ho.2 b hb
  · have := (h.buf j hj).keep ho.1 (fun x hx hxx => hxx.elim (fun hy => h.apart j i hj hi he x hx hy) (fun hy => (hF x hy).2 j hj hx))
    exact .inl ((this.2 b).1 hb)

/-- The lines of a buffer are laid anew. -/
theorem CpuAt.lay {w w' : World} {c : Nat} {a : Ad} {s : CS} (h : CpuAt w c a s) {i : Nat} (hi : i < s.N) {ls : List Line} (hl : Lay w w' 89 (a.pb i) s.size ls) : CpuAt w' c a (setLn s i ls) ∧ One w w' a i (fun _ => False) := by
  obtain ⟨hb, hm⟩ := hl
  have hk := hm.1
  have hT : ∀ {b c t}, cellsOf? w b = some (c, t, (0, 0)) → TC t → ¬ foot w (a.pb i) b := fun hc ht hf => by
    obtain ⟨c', t', h1, h2⟩ := (h.buf i hi).tag hf
    rw [hc] at h1
    simp only [Option.some.injEq, Prod.mk.injEq] at h1
    obtain ⟨_, rfl, _⟩ := h1
    rcases h2 with rfl | rfl <;> simp [TC] at ht
  have hM : ∀ {b m}, MapAt w b m → ¬ foot w (a.pb i) b := fun hm hf => by
    obtain ⟨c', t', h1, _⟩ := (h.buf i hi).tag hf
    rw [hm.nocells] at h1; cases h1
  have hother : ∀ j, j < s.N → j ≠ i → Buf w' 89 (a.pb j) s.size (s.L j) ∧ ∀ b, foot w' (a.pb j) b ↔ foot w (a.pb j) b := fun j hj hne => (h.buf j hj).keep hk (fun x hx hy => h.apart j i hj hi hne x hx hy)
  refine ⟨⟨hk.cells h.cell (hT h.cell (.inl rfl)), h.row.keep hk (fun b hb => ?_), fun j hj => hk.cells (h.cpu j hj) (hT (h.cpu j hj) (.inr (.inr (.inl rfl)))), fun j hj => ?_, fun j hj => ?_, ?_, fun sp hp => ?_, h.injs, h.nes, h.injx, h.injv, fun j k hj hk' hne b h1 h2 => ?_⟩, hk.mono (fun _ _ h => .inl h), hm.2⟩
  · obtain ⟨_, hc⟩ := h.row.tag hb
    exact hT hc (.inr (.inl rfl))
  · rw [setLn_L]
    by_cases he : j = i
    · subst he; rw [if_pos rfl]; exact hb
    · rw [if_neg he]; exact (hother j hj he).1
  · obtain ⟨m, h1, h2⟩ := h.seen j hj
    exact ⟨m, h1.keep hk (hM h1), h2⟩
  · obtain ⟨m, h1, h2⟩ := h.sm
    exact ⟨m, h1.keep hk (hM h1), h2⟩
  · obtain ⟨h1, h2⟩ := h.spc sp hp
    refine ⟨hk.cells h1 (hT h1 (.inr (.inr (.inr (.inl rfl))))), h2.keep hk (fun b hb => ?_)⟩
    obtain ⟨_, hc⟩ := h2.tag hb
    exact hT hc (.inr (.inr (.inr (.inr rfl))))
  · have lt : ∀ n, n < s.N → ∀ b, foot w (a.pb n) b → b < w.heap.size := fun n hn b hf => (h.buf n hn).foot_lt hf
    by_cases e1 : j = i
    · subst e1
      have g2 := ((hother k hk' (fun e => hne e.symm)).2 b).1 h2
      rcases hm.2 b h1 with g | g
      · exact h.apart j k hj hk' hne b g g2
      · have := lt k hk' b g2; omega
    · have g1 := ((hother j hj e1).2 b).1 h1
      by_cases e2 : k = i
      · subst e2
        rcases hm.2 b h2 with g | g
        · exact h.apart j k hj hk' hne b g1 g
        · have := lt j hj b g1; omega
      · exact h.apart j k hj hk' hne b g1 (((hother k hk' e2).2 b).1 h2)

/-- A time that was seen is noted. -/
theorem CpuAt.note {w : World} {c : Nat} {a : Ad} {s : CS} (h : CpuAt w c a s) {i : Nat} (hi : i < s.N) {sp : Int} {t : Nat} {es : Array MapEntry} {n : Nat} {m : MapL} (hm : ∀ sp, (getM m sp).getD (i64 0) = i64 (s.seen i sp)) (hw : MapAt (World.set w (a.ps i) (.map es n)) (a.ps i) (putM m sp (i64 t))) (h0 : cellsOf? w (a.ps i) = none) :
    CpuAt (World.set w (a.ps i) (.map es n)) c a (setSeen s i sp t) ∧ One w (World.set w (a.ps i) (.map es n)) a i (fun b => b = a.ps i) := by
  have hk : Keeps w (World.set w (a.ps i) (.map es n)) (fun b => b = a.ps i) := Keeps.set _ _ _ (fun _ => rfl)
  have hc : ∀ {b x}, cellsOf? w b = some x → ¬ b = a.ps i := fun hb e => by subst e; rw [h0] at hb; cases hb
  have hfoot : ∀ j, j < s.N → ∀ x, foot w (a.pb j) x → ¬ x = a.ps i := fun j hj x hx => by
    obtain ⟨_, _, h1, _⟩ := (h.buf j hj).tag hx
    exact hc h1
  have hb : ∀ j, j < s.N → Buf (World.set w (a.ps i) (.map es n)) 89 (a.pb j) s.size (s.L j) ∧ ∀ b, foot (World.set w (a.ps i) (.map es n)) (a.pb j) b ↔ foot w (a.pb j) b := fun j hj => (h.buf j hj).keep hk (hfoot j hj)
  refine ⟨⟨hk.cells h.cell (hc h.cell), h.row.keep hk (fun b hb => ?_), fun j hj => hk.cells (h.cpu j hj) (hc (h.cpu j hj)), fun j hj => (hb j hj).1, fun j hj => ?_, ?_, fun q hp => ?_, h.injs, h.nes, h.injx, h.injv, fun j k hj hk' hne b h1 h2 => h.apart j k hj hk' hne b (((hb j hj).2 b).1 h1) (((hb k hk').2 b).1 h2)⟩, hk.mono (fun _ _ h => .inr h), fun b h1 => .inl (((hb i hi).2 b).1 h1)⟩
  · obtain ⟨_, h1⟩ := h.row.tag hb
    exact hc h1
  · by_cases he : j = i
    · subst he
      refine ⟨_, hw, fun q => ?_⟩
      rw [getM_put, setSeen_at]
      by_cases hq : q = sp
      · simp [hq]
      · rw [if_neg hq, if_neg (by simp [hq])]; exact hm q
    · obtain ⟨m', h1, h2⟩ := h.seen j hj
      refine ⟨m', h1.keep hk (fun e => he (h.injs j i hj hi e)), fun q => ?_⟩
      rw [setSeen_at, if_neg (by simp [he])]; exact h2 q
  · obtain ⟨m', h1, h2⟩ := h.sm
    exact ⟨m', h1.keep hk (fun e => h.nes i hi e.symm), h2⟩
  · obtain ⟨h1, h2⟩ := h.spc q hp
    refine ⟨hk.cells h1 (hc h1), h2.keep hk (fun b hb => ?_)⟩
    obtain ⟨_, h3⟩ := h2.tag hb
    exact hc h3
end Go.Proofs.Ytplcocifndpplaa
