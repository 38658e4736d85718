/-
  Each small word does as its word does.
-/
import Derived.Test.YtplcocifndpplaaJe
namespace Go.Ideal
open Go

section
variable {P : Program} {K : Kont} {w : World} {Q : Value × World → Prop}

theorem ok_load {t : TypeId} {n : Option Nat} (ha : aggOf P t = some n) {a : Value} (h : (loadS n a w).all Q) : ∃ r, (Instr.loadAt t a).run P w = .ok r w ∧ Q (r, w) := by
  obtain ⟨h1, h2⟩ := run_aggOf (w := w) ha
  unfold loadS at h
  split at h
  · rename_i b o
    split at h
    · rename_i c e fz hc
      have hh := cellsOf?_spec hc
      cases n with
      | none =>
        simp only at h
        split at h
        · rename_i v hv
          have hcell : w.cell? ⟨b, o, none⟩ = some v := by simp [World.cell?, hh, hv]
          exact ⟨v, by simp [Instr.loadAt, Instr.sureAddr, loadVar, Sem.run_bind, h1, Result.andThen, hcell], h⟩
        · exact h.elim
      | some k =>
        simp only at h
        split at h
        · rename_i hk
          have := run_loadCells (P := P) hh k 0 #[] (by omega)
          simp only [Nat.add_zero, Array.empty_append] at this
          exact ⟨_, by simp [Instr.loadAt, Instr.sureAddr, loadVar, loadCells, Sem.run_bind, h1, h2 k rfl, Result.andThen, this], h⟩
        · exact h.elim
    · exact h.elim
  · exact h.elim

theorem ok_store {t : TypeId} {i : TypeInfo} (hi : P.info? t = some i) {a x : Value} (h : (storeS i.size a x w).all Q) : ∃ w', (Instr.storeAt t a x).run P w = .ok () w' ∧ Q (undef, w') := by
  unfold storeS at h
  split at h
  · rename_i b o
    split at h
    · rename_i c e hc
      split at h
      · rename_i hk
        obtain ⟨hs, hn, h1⟩ := hk
        have hh := cellsOf?_spec hc
        have hlen : x.cells.toList.length = i.size := by simpa using hs
        have := run_storeCells (P := P) (b := b) (o := o) x.cells.toList 0 c w hh (by rw [hlen]; omega) h1
        refine ⟨_, ?_, h⟩
        simp only [Instr.storeAt, Instr.sureAddr, Sem.run_bind, storeVar, Sem.run_pure, Result.andThen, run_sizeOf' hi w, hs, ne_eq, not_true_eq_false, if_false, this]
        by_cases he : x.cells.toList = []
        · rw [if_pos he, he]
          simp only [putCells, World.set_self hh]
        · rw [if_neg he]; simp
      · exact h.elim
    · exact h.elim
  · exact h.elim

theorem ok_fieldAt {s : TypeId} {fs : Array Field} {f : Nat} {fd : Field} {i : TypeInfo} (hu : P.underlying s = some (.struct fs)) (hf : fs[f]? = some fd) (hi : P.info? fd.type = some i) (h0 : 0 < i.size) {x : Value}
    (h : (faddrS fd.offset x w).all Q) : ∃ r, (Instr.fieldAt s x f).run P w = .ok r w ∧ Q (r, w) := by
  unfold faddrS at h
  split at h
  · rename_i b o
    refine ⟨_, ?_, h⟩
    have h0' : ¬ i.size = 0 := by omega
    simp [Instr.fieldAt, Sem.run_bind, run_underlying' hu, Result.andThen, hf, Instr.sureAddr, fieldPlace, run_sizeOf' hi w, h0', Addr.add_off]
  · exact h.elim

theorem ok_part {t : TypeId} {n : Option Nat} (ha : aggOf P t = some n) {off : Nat} {x : Value} (h : (partS n off x w).all Q) : ∃ cs r, x = .agg cs ∧ (part t cs off).run P w = .ok r w ∧ Q (r, w) := by
  obtain ⟨h1, h2⟩ := run_aggOf (w := w) ha
  unfold partS at h
  split at h
  · rename_i cs
    cases n with
    | none =>
      simp only at h
      split at h
      · rename_i v hv
        exact ⟨cs, v, rfl, by simp [part, Sem.run_bind, h1, Result.andThen, hv], h⟩
      · exact h.elim
    | some k => exact ⟨cs, _, rfl, by simp [part, Sem.run_bind, h1, h2 k rfl, Result.andThen], h⟩
  · exact h.elim

theorem ok_indexAt {t e : TypeId} {i : TypeInfo} (hu : P.underlying t = some (.slice e)) (hi : P.info? e = some i) {x ix : Value} (h : (iaddrS i.size x ix w).all Q) : ∃ r, (Instr.indexAt t x ix).run P w = .ok r w ∧ Q (r, w) := by
  unfold iaddrS at h
  split at h
  · rename_i b o len c k n
    split at h
    · rename_i hn
      refine ⟨_, ?_, h⟩
      simp [Instr.indexAt, Sem.run_bind, asIntOf, run_underlying' hu, Result.andThen, hn, run_sizeOf' hi w, Addr.add_off]
    · exact h.elim
  · exact h.elim

theorem ok_extract {x : Value} {i : Nat} (h : (extractS x i w).all Q) : ∃ r, (Instr.extract x i).run P w = .ok r w ∧ Q (r, w) := by
  unfold extractS at h
  split at h
  · split at h
    · rename_i vs v hv
      exact ⟨v, by simp [Instr.extract, hv], h⟩
    · exact h.elim
  · exact h.elim

theorem ok_arith {op : BinOp} {t : TypeId} {k j : IntKind} {a b : Int} (hk : (op = .shl ∨ op = .shr) ∨ k = j) {q : Value → Prop} (h : (arith op k a b).all q) : ∃ r, (binOp op t (.int k a) (.int j b)).run P w = .ok r w ∧ q r := by
  by_cases hs : op = .shl ∨ op = .shr
  · rcases hs with rfl | rfl
    · simp only [arith] at h
      split at h
      · exact h.elim
      · rename_i hb
        exact ⟨_, by simp [binOp, Op.shift, hb], h⟩
    · simp only [arith] at h
      split at h
      · exact h.elim
      · rename_i hb
        exact ⟨_, by simp [binOp, Op.shift, hb], h⟩
  · obtain rfl := hk.resolve_left hs
    cases op with
    | shl => exact absurd (.inl rfl) hs
    | shr => exact absurd (.inr rfl) hs
    | add => exact ⟨_, by simp [binOp, Op.intArith], h⟩
    | sub => exact ⟨_, by simp [binOp, Op.intArith], h⟩
    | mul => exact ⟨_, by simp [binOp, Op.intArith], h⟩
    | quo =>
      simp only [arith] at h
      split at h
      · exact h.elim
      · rename_i hb; exact ⟨_, by simp [binOp, Op.intDiv, hb], h⟩
    | rem =>
      simp only [arith] at h
      split at h
      · exact h.elim
      · rename_i hb; exact ⟨_, by simp [binOp, Op.intDiv, hb], h⟩
    | eql => exact ⟨_, by simp only [binOp, Op.intCmp, ne_eq, not_true_eq_false, if_false, Sem.run_pure]; rfl, h⟩
    | neq => exact ⟨_, by simp only [binOp, Op.intCmp, ne_eq, not_true_eq_false, if_false, Sem.run_pure]; rfl, h⟩
    | lss => exact ⟨_, by simp only [binOp, Op.intCmp, ne_eq, not_true_eq_false, if_false, Sem.run_pure], h⟩
    | leq => exact ⟨_, by simp only [binOp, Op.intCmp, ne_eq, not_true_eq_false, if_false, Sem.run_pure], h⟩
    | gtr => exact ⟨_, by simp only [binOp, Op.intCmp, ne_eq, not_true_eq_false, if_false, Sem.run_pure], h⟩
    | geq => exact ⟨_, by simp only [binOp, Op.intCmp, ne_eq, not_true_eq_false, if_false, Sem.run_pure], h⟩
    | and => exact ⟨_, by simp only [binOp, Op.intBits, ne_eq, not_true_eq_false, if_false, Sem.run_pure], h⟩
    | andNot => exact ⟨_, by simp only [binOp, Op.intBits, ne_eq, not_true_eq_false, if_false, Sem.run_pure], h⟩
    | _ => exact h.elim

theorem ok_len {t : TypeId} {e : TypeId} {ty : TypeId} {at_ : Array TypeId} {args : Array Value} {x : Value} (h0 : at_[0]? = some t) (h1 : args[0]? = some x) (hu : P.underlying t = some (.slice e)) (h : (lenS x w).all Q) :
    ∃ r, (Builtin.len_ at_ ty args).run P w = .ok r w ∧ Q (r, w) := by
  unfold lenS at h
  split at h
  · exact ⟨_, by simp [Builtin.len_, h0, h1, Sem.run_bind, run_underlying' hu, Result.andThen, goInt], h⟩
  · exact h.elim

theorem ok_lenMap {t k e : TypeId} {ty : TypeId} {at_ : Array TypeId} {args : Array Value} {x : Value} (h0 : at_[0]? = some t) (h1 : args[0]? = some x) (hu : P.underlying t = some (.map k e)) (h : (lenMapS x w).all Q) :
    ∃ r, (Builtin.len_ at_ ty args).run P w = .ok r w ∧ Q (r, w) := by
  unfold lenMapS at h
  split at h
  · exact ⟨_, by simp [Builtin.len_, h0, h1, Sem.run_bind, run_underlying' hu, Result.andThen, goInt], h⟩
  · split at h
    · rename_i r es n hm
      have hh := mapOf?_spec hm
      exact ⟨_, by simp [Builtin.len_, h0, h1, Sem.run_bind, run_underlying' hu, Result.andThen, goInt, getObj, Sem.run, hh], h⟩
    · exact h.elim
  · exact h.elim
end
end Go.Ideal
