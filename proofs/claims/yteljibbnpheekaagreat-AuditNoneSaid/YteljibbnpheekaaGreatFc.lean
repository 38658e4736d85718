/-
  The fast evaluator: append; comparing; one operation.
-/
import Derived.Test.YteljibbnpheekaaGreatFb
import Derived.Test.YteljibbnpheekaaGreatJt
namespace Go.Ideal
open Go
theorem Tr.get_put {α : Type} : ∀ (l : List α) (t : Tr α) (o i : Nat), (Tr.put l t o).get i = if o ≤ i ∧ i < o + l.length then l[i - o]? else t.get i
  | [], t, o, i => by rw [Tr.put_nil, if_neg (by simp)]
  | v :: l, t, o, i => by
    rw [Tr.put_cons, Tr.get_put l (t.set o v) (o + 1) i, Tr.get_set]
    simp only [List.length_cons]
    by_cases h1 : o + 1 ≤ i ∧ i < o + 1 + l.length
    · rw [if_pos h1, if_pos (by omega), show i - o = (i - (o + 1)) + 1 by omega, List.getElem?_cons_succ]
    · rw [if_neg h1]
      by_cases h2 : i = o
      · subst h2; rw [if_pos rfl, if_pos (by omega), Nat.sub_self]; rfl
      · rw [if_neg h2, if_neg (by omega)]
section
variable {fw : FW} {w : World}
noncomputable def firstF (size n : Nat) (x : Option Addr) (w : FW) : Option (List Value) :=
  match x with
  | none => some []
  | some ⟨b, o, none⟩ =>
    match w.h.get b with
    | some (.cells m t _ _) => match Nat.ble (Nat.add o (Nat.mul n size)) m with
      | true => some (t.seg undef (Nat.mul n size) o)
      | false => none
    | _ => none
  | _ => none
theorem first_ok (hs : SimW fw w) {size n : Nat} {x : Option Addr} {l : List Value} (h : firstF size n x fw = some l) : firstS size n x w = some l.toArray := by
  unfold firstF at h
  split at h
  · simp only [Option.some.injEq] at h; subst h; rfl
  · rename_i b o
    split at h
    · rename_i m t e fz hb
      obtain ⟨c, hc, hcr⟩ := hs.cells hb
      split at h
      · rename_i h1
        have hle : o + n * size ≤ m := Nat.le_of_ble_eq_true h1
        simp only [Option.some.injEq] at h
        subst h
        simp only [firstS, hc]
        rw [if_pos (by rw [hcr.1]; exact hle)]
        congr 1
        apply Array.ext'
        rw [hcr.seg _ _ hle]; rfl
      · cases h
    · cases h
  · cases h
def deadF : FO := .cells 0 .lf 0 (1, 1)
theorem SimW.kill {b : Nat} {fo : FO} (hs : SimW fw w) (hb : fw.h.get b = some fo) : SimW (fw.set b deadF) (Ideal.kill w b) :=
  hs.set hb ⟨#[], rfl, rfl, fun i hi => absurd hi (Nat.not_lt_zero i)⟩
noncomputable def FW.grow (w : FW) (t : Tr Value) (o k : Nat) (new : List Value) (e : TypeId) : FW :=
  match Nat.beq o 0 with
  | true => w.push (.cells (Nat.add k new.length) (Tr.put new t k) e (0, 0))
  | false => w.cells (t.seg undef k o ++ new) e
theorem SimW.grow (hs : SimW fw w) {m : Nat} {t : Tr Value} {c : Array Value} (hcr : CR m t c) {o k : Nat} (hle : o + k ≤ m) (new : List Value) (e : TypeId) :
    SimW (fw.grow t o k new e) (World.push w (.cells (c.extract o (o + k) ++ new.toArray) e)) := by
  unfold FW.grow
  split
  · rename_i h
    have ho := Nat.eq_of_beq_eq_true h
    subst ho
    refine hs.push ⟨_, rfl, ?_, fun i hi => ?_⟩
    · have := hcr.1; simp; omega
    · have hsz := hcr.1
      have hi' : i < k + new.length := hi
      rw [Tr.get_put]
      have h1 : (c.extract 0 (0 + k)).size = k := by simp; omega
      by_cases g : i < k
      · rw [Array.getElem?_append_left (by omega), Array.getElem?_extract, if_pos (by omega), if_neg (by omega), Nat.zero_add]
        exact hcr.2 i (by omega)
      · rw [Array.getElem?_append_right (by omega), h1, if_pos (by omega)]; simp
  · have he : c.extract o (o + k) ++ new.toArray = (t.seg undef k o ++ new).toArray := by
      apply Array.ext'
      rw [Array.toList_append, hcr.seg k o hle]
    rw [he]
    exact hs.cellsN (t.seg undef k o ++ new).toArray e
noncomputable def appendF (e : TypeId) (size bytes : Nat) (s x : Value) (w : FW) : T (Value × FW) :=
  match s, x with
  | .slice base sLen sCap, .slice xb n _ =>
    match Nat.ble (Nat.mul (Nat.add sLen n) bytes) 140737488355328, firstF size n xb w with
    | true, some new =>
      match all1 new with
      | true =>
        match Nat.ble (Nat.succ sCap) OPEN with
        | true =>
          match Nat.ble (Nat.add sLen n) sCap with
          | true =>
            match base with
            | some ⟨b, o, none⟩ =>
              match w.h.get b with
              | some (.cells m t e' (0, 0)) =>
                match Nat.ble (Nat.add (Nat.add o (Nat.mul sLen size)) new.length) m with
                | true => .ret (.slice base (Nat.add sLen n) sCap, w.set b (.cells m (Tr.put new t (Nat.add o (Nat.mul sLen size))) e' (0, 0)))
                | false => .bad
              | _ => .bad
            | none => .ret (.slice none (Nat.add sLen n) sCap, w)
            | _ => .bad
          | false =>
            match firstF size sLen base w with
            | some old => .ret (.slice (some ⟨w.n, 0, none⟩) (Nat.add sLen n) OPEN, w.cells (old ++ new) e)
            | none => .bad
        | false =>
          match base with
          | some ⟨b, o, none⟩ =>
            match w.h.get b with
            | some (.cells m t e' (0, 0)) =>
              match Nat.beq sCap OPEN, Nat.beq e' e, Nat.ble (Nat.add o (Nat.mul (Nat.add sLen n) size)) m, Nat.ble (Nat.add o (Nat.mul sLen size)) m, Nat.ble 1 (Nat.add sLen n) with
              | true, true, false, true, true => .ret (.slice (some ⟨w.n, 0, none⟩) (Nat.add sLen n) OPEN, (w.grow t o (Nat.mul sLen size) new e).set b deadF)
              | true, true, true, _, _ => match Nat.ble (Nat.add (Nat.add o (Nat.mul sLen size)) new.length) m with
                | true => .ret (.slice base (Nat.add sLen n) OPEN, w.set b (.cells m (Tr.put new t (Nat.add o (Nat.mul sLen size))) e' (0, 0)))
                | false => .bad
              | _, _, _, _, _ => .bad
            | _ => .bad
          | _ => .bad
      | false => .bad
    | _, _ => .bad
  | _, _ => .bad
theorem ble_f {a b : Nat} (h : Nat.ble a b = false) : ¬ a ≤ b := fun hle => by rw [Nat.ble_eq_true_of_le hle] at h; cases h
theorem append_tr (hs : SimW fw w) (e : TypeId) (size bytes : Nat) (s x : Value) : TR (appendF e size bytes s x fw) (appendS e size bytes s x w) := by
  unfold appendF
  split
  rotate_left
  · exact .bad _
  rename_i base sLen sCap xb n xc
  split
  rotate_left
  · exact .bad _
  rename_i new hby hfi
  have hby' : (sLen + n) * bytes ≤ 140737488355328 := Nat.le_of_ble_eq_true hby
  have hfi' := first_ok hs hfi
  split
  rotate_left
  · exact .bad _
  rename_i h1
  rw [all1_eq] at h1
  simp only [appendS, if_pos hby', hfi', h1, if_true]
  split
  · rename_i hc
    have hc' : sCap < OPEN := Nat.le_of_ble_eq_true hc
    rw [if_pos hc']
    split
    · rename_i hr
      have hr' : sLen + n ≤ sCap := Nat.le_of_ble_eq_true hr
      rw [if_pos hr']
      split
      · rename_i b o
        split
        · rename_i m t e' hb
          obtain ⟨c, hcc, hcr⟩ := hs.cells hb
          split
          · rename_i hl
            have hl' : o + sLen * size + new.length ≤ m := Nat.le_of_ble_eq_true hl
            simp only [hcc]
            rw [if_pos (by rw [hcr.1]; simpa using hl')]
            exact .ret (hs.set hb ⟨_, rfl, CR.put new _ hcr hl'⟩)
          · exact .bad _
        · exact .bad _
      · exact .ret hs
      · exact .bad _
    · rename_i hr
      have hr' : ¬ sLen + n ≤ sCap := ble_f hr
      rw [if_neg hr']
      split
      · rename_i old ho
        rw [first_ok hs ho]
        simp only [growS]
        rw [hs.size]
        have := hs.cellsN (old ++ new).toArray e
        rw [show (old ++ new).toArray = old.toArray ++ new.toArray by simp] at this
        have h2 : (old.toArray ++ new.toArray).toList = old ++ new := by simp
        rw [h2] at this
        exact .ret this
      · exact .bad _
  · rename_i hc
    have hc' : ¬ sCap < OPEN := ble_f hc
    rw [if_neg hc']
    split
    · rename_i b o
      split
      · rename_i m t e' hb
        obtain ⟨c, hcc, hcr⟩ := hs.cells hb
        simp only [hcc]
        split
        · rename_i g1 g2 g3 g4 g5
          have g1' := Nat.eq_of_beq_eq_true g1
          have g2' := Nat.eq_of_beq_eq_true g2
          have g3' : ¬ o + (sLen + n) * size ≤ m := ble_f g3
          have g4' : o + sLen * size ≤ m := Nat.le_of_ble_eq_true g4
          have g5' : 1 ≤ sLen + n := Nat.le_of_ble_eq_true g5
          rw [if_pos ⟨g1', g2'⟩, hcr.1, if_neg g3', if_neg (by omega), if_pos g4']
          simp only [growS]
          rw [hs.size]
          have hg := hs.grow hcr g4' new e
          have hb2 : (fw.grow t o (Nat.mul sLen size) new e).h.get b = some (.cells m t e' (0, 0)) := by
            have hlt := hs.lt hb
            rw [hs.size] at hlt
            unfold FW.grow
            split
            · show (fw.h.set fw.n _).get b = _
              rw [Tr.get_set, if_neg (by omega)]; exact hb
            · show (fw.h.set fw.n _).get b = _
              rw [Tr.get_set, if_neg (by omega)]; exact hb
          exact .ret (hg.kill hb2)
        · rename_i g1 g2 g3
          have g1' := Nat.eq_of_beq_eq_true g1
          have g2' := Nat.eq_of_beq_eq_true g2
          have g3' : o + (sLen + n) * size ≤ m := Nat.le_of_ble_eq_true g3
          split
          · rename_i hl
            have hl' : o + sLen * size + new.length ≤ m := Nat.le_of_ble_eq_true hl
            rw [if_pos ⟨g1', g2'⟩, hcr.1, if_pos g3']
            exact .ret (hs.set hb ⟨_, rfl, CR.put new _ hcr hl'⟩)
          · exact .bad _
        · exact .bad _
      · exact .bad _
    · exact .bad _
theorem bin_pure (P : Program) (op : BinOp) (t : TypeId) (o1 o2 : Operand) (k j : IntKind) (a b : Int) (w : World) (v : Value) (w0 : World) (h : binS P op t o1 o2 (.int k a) (.int j b) default = .ret (v, w0)) : binS P op t o1 o2 (.int k a) (.int j b) w = .ret (v, w) := by
  unfold binS at *
  simp only at h ⊢
  split at h
  · rename_i h1
    rw [if_pos h1]
    cases ha : arith op k a b with
    | ret u =>
      rw [ha] at h
      simp only [T.bind, T.ret.injEq, Prod.mk.injEq] at h ⊢
      exact ⟨h.1, trivial⟩
    | bad => rw [ha] at h; cases h
    | pick n k => rw [ha] at h; cases h
  · cases h
end
end Go.Ideal
