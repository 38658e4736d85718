/-
  Each small word does as its word does: slices, maps, append.
-/
import Derived.Test.YtplcocifndpplaaJf
namespace Go.Ideal
open Go

section
variable {P : Program} {K : Kont} {w : World} {Q : Value × World → Prop}

theorem intO_spec {v : Option Value} {d l : Int} (h : intO v d = some l) : (v = none ∧ l = d) ∨ ∃ k, v = some (.int k l) := by
  unfold intO at h
  split at h
  · simp only [Option.some.injEq] at h; exact .inl ⟨rfl, h.symm⟩
  · simp only [Option.some.injEq] at h; subst h; exact .inr ⟨_, rfl⟩
  · cases h

theorem run_bounds_in {len cap : Nat} {lo hi mx : Option Value} {l h m : Int} (el : intO lo 0 = some l) (eh : intO hi len = some h) (em : intO mx cap = some m) (h0 : 0 ≤ l) (h1 : l ≤ h) (h2 : h ≤ m) (h3 : m ≤ cap)
    (hx : mx.isSome = true → hi.isSome = true) : (Instr.sliceBounds true len cap lo hi mx).run P w = .ok (l.toNat, h.toNat, m.toNat) w := by
  have q1 : 0 ≤ h := by omega
  have q2 : 0 ≤ m := by omega
  have em' : (m.toNat : Int) = m := Int.toNat_of_nonneg q2
  have eh' : (h.toNat : Int) = h := Int.toNat_of_nonneg q1
  have q3 : h ≤ cap := by omega
  rcases intO_spec em with ⟨rfl, e1⟩ | ⟨km, rfl⟩
  · rcases intO_spec eh with ⟨rfl, e2⟩ | ⟨kh, rfl⟩ <;> rcases intO_spec el with ⟨rfl, e3⟩ | ⟨kl, rfl⟩
    · simp [Instr.sliceBounds, Sem.run_bind, Result.andThen]; omega
    · have q4 : l ≤ (len : Int) := by omega
      simp [Instr.sliceBounds, Sem.run_bind, Result.andThen, Instr.sliceBound, asIntOf, h0, q4]; omega
    · simp [Instr.sliceBounds, Sem.run_bind, Result.andThen, Instr.sliceBound, asIntOf, q1, q3]; omega
    · simp [Instr.sliceBounds, Sem.run_bind, Result.andThen, Instr.sliceBound, asIntOf, q1, q3, h0, eh', h1]; omega
  · rcases intO_spec eh with ⟨rfl, e2⟩ | ⟨kh, rfl⟩
    · simp at hx
    · rcases intO_spec el with ⟨rfl, e3⟩ | ⟨kl, rfl⟩
      · simp [Instr.sliceBounds, Sem.run_bind, Result.andThen, Instr.sliceBound, asIntOf, eh', em', h0, h1, h2, h3, q1, q2]; omega
      · simp [Instr.sliceBounds, Sem.run_bind, Result.andThen, Instr.sliceBound, asIntOf, eh', em', h0, h1, h2, h3, q1, q2]

theorem ok_slice {t e : TypeId} {i : TypeInfo} (hu : P.underlying t = some (.slice e)) (hi : P.info? e = some i) {x : Value} {lo hi' mx : Option Value} (h : (sliceS e i.size x lo hi' mx w).all Q) : (islice P t x lo hi' mx w).all Q := by
  unfold sliceS at h
  split at h
  · rename_i base len cap
    split at h
    · rename_i l hh m el eh em
      split at h
      · rename_i hcap
        split at h
        · rename_i hb
          obtain ⟨h0, h1, h2, h3, h4⟩ := hb
          have hrun : (Instr.sliceAt t (.slice base len cap) lo hi' mx).run P w = .ok (.slice (if m.toNat = l.toNat then base else base.map (·.add (l.toNat * i.size))) (hh.toNat - l.toNat) (m.toNat - l.toNat)) w := by
            have := run_bounds_in (P := P) (w := w) el eh em h0 h1 h2 h3 h4
            simp [Instr.sliceAt, Instr.slice, Sem.run_bind, run_underlying' hu, Result.andThen, this, run_sizeOf' hi w]
          unfold islice
          rw [hu]
          cases base with
          | none => simp only [hrun, ofRun]; exact h
          | some a => simp only [hcap, if_true, hrun, ofRun]; exact h
        · exact h.elim
      · rename_i hcap
        split at h
        · rename_i b o
          split at h
          · rename_i c e' hc
            have hcell := cellsOf?_spec hc
            split at h
            · rename_i hk
              obtain ⟨hco, rfl, hs, h0, h1⟩ := hk
              unfold islice
              rw [hu]
              simp only [hcap, if_false, if_pos hco]
              subst hco
              have eb : bound? lo 0 = some l.toNat := by
                rcases intO_spec el with ⟨rfl, rfl⟩ | ⟨kl, rfl⟩
                · rfl
                · simp [bound?, h0]
              have ehb : bound? hi' len = some hh.toNat := by
                rcases intO_spec eh with ⟨rfl, rfl⟩ | ⟨kl, rfl⟩
                · simp [bound?]
                · have : 0 ≤ hh := by omega
                  simp [bound?, this]
              unfold isliceOpen
              simp only [hi, eb, ehb, hcell]
              have hlh : l.toNat ≤ hh.toNat := by omega
              rw [if_pos (by simp [hlh, hs])]
              split at h
              · rename_i hm; subst hm
                split at h
                · rename_i hl
                  have : hh.toNat ≤ len := by omega
                  simp only [this, if_true]; exact h
                · exact h.elim
              · rename_i hm
                rcases intO_spec em with ⟨rfl, rfl⟩ | ⟨km, rfl⟩
                · exact absurd rfl hm
                · split at h
                  · rename_i hq
                    obtain ⟨q1, q2, q3, q4⟩ := hq
                    have p1 : 0 ≤ m := by omega
                    have p2 : hh.toNat ≤ m.toNat := by omega
                    simp only [p1, p2, q2, q3, q4, and_self, if_true]
                    exact h
                  · exact h.elim
            · exact h.elim
          · exact h.elim
        · exact h.elim
    · exact h.elim
  · exact h.elim

theorem run_checkKey_int {t : TypeId} {k : IntKind} (hu : P.underlying t = some (.int k)) (b : Bool) (j : IntKind) (n : Int) : (Instr.checkKey b 10000 t (.int j n)).run P w = .ok () w := by
  have : ∀ m : Nat, (Instr.checkKey b (m + 1) t (.int j n)).run P w = .ok () w := fun m => by
    unfold Instr.checkKey
    simp [Sem.run_bind, run_underlying' hu, Result.andThen]
  exact this 9999

theorem run_findKey_int {t : TypeId} {k : IntKind} (hu : P.underlying t = some (.int k)) {x : Value} {es : List MapEntry} {r : Option (Nat × Value)} (h : Instr.findNow (.int k) x es 0 = some r) : (Instr.findKey t x es).run P w = .ok r w := by
  simp [Instr.findKey, Sem.run_bind, run_underlying' hu, Result.andThen, h]

theorem ok_lookup {t kt et : TypeId} {kk : IntKind} {i : TypeInfo} {z : Value} (hu : P.underlying t = some (.map kt et)) (hk : P.underlying kt = some (.int kk)) (hi : P.info? et = some i) (hz : i.zero = some z) {x ix : Value} {ok : Bool}
    (h : (lookupS kk z x ix ok w).all Q) : ∃ r, (Instr.lookup t x ix ok).run P w = .ok r w ∧ Q (r, w) ∧ keyFit ix = true := by
  unfold lookupS at h
  split at h
  · rename_i j n
    split at h
    · rename_i hj; subst hj
      split at h
      · refine ⟨_, ?_, h, rfl⟩
        have hf : (Instr.findKey kt (.int j n) []).run P w = .ok none w := run_findKey_int hk rfl
        simp only [Instr.lookup, Sem.run_bind, run_underlying' hu, Result.andThen, Sem.run_pure, run_checkKey_int hk, hf, zeroValue, typeInfo, run_program, hi, hz]
      · split at h
        · rename_i r es n' hm
          have hh := mapOf?_spec hm
          split at h
          · rename_i p v hfn
            refine ⟨_, ?_, h, rfl⟩
            have hf := run_findKey_int (w := w) hk hfn
            simp only [Instr.lookup, Sem.run_bind, run_underlying' hu, Result.andThen, Sem.run_pure, run_checkKey_int hk, hf, getObj, Sem.run, hh]
          · rename_i hfn
            refine ⟨_, ?_, h, rfl⟩
            have hf := run_findKey_int (w := w) hk hfn
            simp only [Instr.lookup, Sem.run_bind, run_underlying' hu, Result.andThen, Sem.run_pure, run_checkKey_int hk, hf, getObj, Sem.run, hh, zeroValue, typeInfo, run_program, hi, hz]
          · exact h.elim
        · exact h.elim
      · exact h.elim
    · exact h.elim
  · exact h.elim

theorem run_setObj_map {r : Nat} {es es' : Array MapEntry} {n n' : Nat} (h : w.heap[r]? = some (.map es n)) : (setObj r (.map es' n')).run P w = .ok () (World.set w r (.map es' n')) := by
  simp [setObj, Sem.run, h, World.set]

theorem ok_update {t kt et : TypeId} {kk : IntKind} (hu : P.underlying t = some (.map kt et)) (hk : P.underlying kt = some (.int kk)) {m ix v : Value}
    (h : (updateS kk m ix v w).all Q) : ∃ w', (Instr.mapUpdate t m ix v).run P w = .ok () w' ∧ Q (undef, w') ∧ keyFit ix = true := by
  unfold updateS at h
  split at h
  · rename_i j n r
    split at h
    · rename_i hj; subst hj
      split at h
      · rename_i es clock hm
        have hh := mapOf?_spec hm
        split at h
        · rename_i p v0 hfn
          refine ⟨_, ?_, h, rfl⟩
          have hf := run_findKey_int (w := w) hk hfn
          obtain ⟨en, _, hen, hkey, _⟩ := findNow_key (.int j) (k := .int j n) rfl es.toList 0 p v0 hfn
          have hen' : es[p]? = some en := by simpa using hen
          have hks : (Instr.keyThatStays (.int j n) (.int j n)).run P w = .ok (.int j n) w := by
            unfold Instr.keyThatStays
            rw [if_pos (by simp [Instr.sameBits])]
            rfl
          simp only [Instr.mapUpdate, Sem.run_bind, run_underlying' hu, Result.andThen, Sem.run_pure, run_checkKey_int hk, hf, getObj, Sem.run, hh, hen', Option.map_some, Option.getD_some, hkey, hks, run_setObj_map hh]
        · rename_i hfn
          refine ⟨_, ?_, h, rfl⟩
          have hf := run_findKey_int (w := w) hk hfn
          simp only [Instr.mapUpdate, Sem.run_bind, run_underlying' hu, Result.andThen, Sem.run_pure, run_checkKey_int hk, hf, getObj, Sem.run, hh, run_setObj_map hh]
        · exact h.elim
      · exact h.elim
    · exact h.elim
  · exact h.elim

theorem ok_delete {t kt et ty : TypeId} {at_ : Array TypeId} {args : Array Value} {kk : IntKind} {m ix : Value} (h0 : at_[0]? = some t) (ha0 : args[0]? = some m) (ha1 : args[1]? = some ix) (hu : P.underlying t = some (.map kt et)) (hk : P.underlying kt = some (.int kk))
    (h : (deleteS kk m ix w).all Q) : ∃ r w', (Builtin.delete_ at_ ty args).run P w = .ok r w' ∧ Q (r, w') ∧ keyFit ix = true := by
  unfold deleteS at h
  split at h
  · rename_i j n r
    split at h
    · rename_i hj; subst hj
      split at h
      · rename_i es clock hm
        have hh := mapOf?_spec hm
        split at h
        · rename_i p v0 hfn
          refine ⟨_, _, ?_, h, rfl⟩
          have hf := run_findKey_int (w := w) hk hfn
          simp only [Builtin.delete_, h0, ha0, ha1, Sem.run_bind, run_underlying' hu, Result.andThen, Sem.run_pure, run_checkKey_int hk, hf, getObj, Sem.run, hh, run_setObj_map hh]
        · rename_i hfn
          refine ⟨_, _, ?_, h, rfl⟩
          have hf := run_findKey_int (w := w) hk hfn
          simp only [Builtin.delete_, h0, ha0, ha1, Sem.run_bind, run_underlying' hu, Result.andThen, Sem.run_pure, run_checkKey_int hk, hf, getObj, Sem.run, hh, run_setObj_map hh]
        · exact h.elim
      · exact h.elim
    · exact h.elim
  · exact h.elim

theorem run_firstS {size n : Nat} {xb : Option Addr} {l c : Nat} {cs : Array Value} (h : firstS size n xb w = some cs) : (Builtin.firstCells size n (.slice xb l c)).run P w = .ok cs w ∧ (xb = none → cs = #[]) ∧ ∀ a, xb = some a → cs.size = n * size := by
  unfold firstS at h
  split at h
  · simp only [Option.some.injEq] at h; subst h; exact ⟨rfl, (fun _ => rfl), (fun _ h => by cases h)⟩
  · rename_i b o
    split at h
    · rename_i c' e fz hc
      split at h
      · rename_i hn
        simp only [Option.some.injEq] at h; subst h
        have := run_loadCells (P := P) (cellsOf?_spec hc) (n * size) 0 #[] (by omega)
        simp only [Nat.add_zero, Array.empty_append] at this
        exact ⟨this, (fun h => by cases h), (fun _ _ => by simp; omega)⟩
      · cases h
    · cases h
  · cases h

theorem ok_append {at_ : Array TypeId} {args : Array Value} {sT xT e xe : TypeId} {i : TypeInfo} {s x : Value} (h0 : at_[0]? = some sT) (h1 : at_[1]? = some xT) (ha0 : args[0]? = some s) (ha1 : args[1]? = some x)
    (hu : P.underlying sT = some (.slice e)) (hux : P.underlying xT = some (.slice xe)) (hi : P.info? e = some i) (hs : 0 < i.size) (hb : 0 < i.bytes) (hz : zeroFits i = true) (h : (appendS e i.size i.bytes s x w).all Q) :
    (iappend P at_ args w).all Q := by
  unfold appendS at h
  split at h
  · rename_i base sLen sCap xb n xc
    split at h
    · rename_i hroom
      split at h
      · rename_i new hnew
        obtain ⟨hrn, hn0, hn1⟩ := run_firstS (P := P) (l := n) (c := xc) hnew
        split at h
        · rename_i hone
          unfold iappend
          simp only [h0, h1, ha0, ha1, hu, hux, hi]
          rw [if_pos ⟨hs, hb, hroom, hz⟩]
          simp only [hrn]
          rw [if_pos hone]
          split at h
          · rename_i hcap
            rw [if_pos hcap]
            split at h
            · rename_i hfit
              rw [if_pos hfit]
              split at h
              · rename_i b o
                split at h
                · rename_i c e' hc
                  split at h
                  · rename_i hsz
                    have hst := run_storeCells (P := P) (b := b) (o := o + sLen * i.size) new.toList 0 c w (cellsOf?_spec hc) (by simpa using hsz) hone
                    simp only [Addr.add_off, hst, Nat.add_zero]
                    by_cases he : new.toList = []
                    · rw [if_pos he]
                      have hh := cellsOf?_spec hc
                      have hw : World.set w b (.cells (putCells c (o + sLen * i.size) new.toList) e') = w := by
                        rw [he]; exact World.set_self hh
                      rw [hw] at h
                      exact h
                    · rw [if_neg he]; exact h
                  · exact h.elim
                · exact h.elim
              · exact h
              · exact h.elim
            · rename_i hfit
              rw [if_neg hfit]
              split at h
              · rename_i old hold
                have hro := (run_firstS (P := P) (l := sLen) (c := sCap) hold).1
                simp only [growCells, hro, newCells]
                exact h
              · exact h.elim
          · rename_i hcap
            rw [if_neg hcap]
            split at h
            · rename_i b o
              split at h
              · rename_i c e' hc
                have hh := cellsOf?_spec hc
                split at h
                · rename_i hk
                  obtain ⟨hco, rfl⟩ := hk
                  rw [if_pos hco]
                  simp only [hh]
                  rw [if_pos ⟨trivial, trivial⟩]
                  split at h
                  · rename_i hsz
                    rw [if_pos hsz]
                    have hnsz : new.size ≤ n * i.size := by
                      cases xb with
                      | none => rw [hn0 rfl]; simp
                      | some a => rw [hn1 a rfl]; exact Nat.le_refl _
                    have hst := run_storeCells (P := P) (b := b) (o := o + sLen * i.size) new.toList 0 c w hh (by
                      simp only [Array.length_toList, Nat.add_zero]
                      have : (sLen + n) * i.size = sLen * i.size + n * i.size := Nat.add_mul _ _ _
                      omega) hone
                    simp only [Addr.add_off, hst, Nat.add_zero]
                    by_cases he : new.toList = []
                    · rw [if_pos he]
                      have hw : World.set w b (.cells (putCells c (o + sLen * i.size) new.toList) e') = w := by
                        rw [he]; exact World.set_self hh
                      rw [hw] at h
                      exact h
                    · rw [if_neg he]; exact h
                  · rename_i hsz
                    rw [if_neg hsz]
                    split at h
                    · exact h.elim
                    · rename_i hz0
                      rw [if_neg hz0]
                      split at h
                      · rename_i hin
                        have hold : firstS i.size sLen (some ⟨b, o, none⟩) w = some (c.extract o (o + sLen * i.size)) := by simp [firstS, hc, hin]
                        have hro := (run_firstS (P := P) (l := sLen) (c := OPEN) hold).1
                        subst hco
                        simp only [growCells, hro, newCells, T.bind]
                        exact h
                      · exact h.elim
                · exact h.elim
              · exact h.elim
            · exact h.elim
        · exact h.elim
      · exact h.elim
    · exact h.elim
  · exact h.elim
end
end Go.Ideal
