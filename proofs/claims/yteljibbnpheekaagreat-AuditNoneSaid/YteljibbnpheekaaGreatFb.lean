/-
  The fast evaluator: the operations, side by side.
-/
import Derived.Test.YteljibbnpheekaaGreatFa
namespace Go.Ideal
open Go
inductive TR : T (Value × FW) → T (Value × World) → Prop
  | bad (t : T (Value × World)) : TR .bad t
  | ret {v : Value} {fw : FW} {w : World} (h : SimW fw w) : TR (.ret (v, fw)) (.ret (v, w))
  | pick {n : Nat} {k : Nat → T (Value × FW)} {k' : Nat → T (Value × World)} (h : ∀ i, i < n → TR (k i) (k' i)) : TR (.pick n k) (.pick n k')
def Up (Q : Value × World → Prop) : Value × FW → Prop := fun r => ∀ w, SimW r.2 w → Q (r.1, w)
theorem TR.all {t : T (Value × FW)} {t' : T (Value × World)} (h : TR t t') {Q : Value × World → Prop} (hq : t.all (Up Q)) : t'.all Q := by
  induction h with
  | bad t => exact hq.elim
  | ret h => exact hq _ h
  | pick h ih => exact ⟨hq.1, fun i hi => ih i hi (hq.2 i hi)⟩
section
variable {fw : FW} {w : World}
noncomputable def loadF (n : Option Nat) (a : Value) (w : FW) : T (Value × FW) :=
  match a with
  | .pointer (some ⟨b, o, none⟩) =>
    match w.h.get b with
    | some (.cells m t _ _) =>
      match n with
      | none => match Nat.ble (Nat.succ o) m, t.get o with
        | true, some v => .ret (v, w)
        | _, _ => .bad
      | some k => match Nat.ble (Nat.add o k) m with
        | true => .ret (.agg (t.seg undef k o).toArray, w)
        | false => .bad
    | _ => .bad
  | _ => .bad
theorem load_tr (hs : SimW fw w) (n : Option Nat) (a : Value) : TR (loadF n a fw) (loadS n a w) := by
  unfold loadF
  split
  · rename_i b o
    split
    · rename_i m t e fz hb
      obtain ⟨c, hc, hcr⟩ := hs.cells hb
      simp only [loadS, hc]
      split
      · split
        · rename_i v h1 h2
          have hlt : o < m := Nat.le_of_ble_eq_true h1
          rw [hcr.2 o hlt, h2]
          exact .ret hs
        · exact .bad _
      · rename_i k
        split
        · rename_i h1
          have hle : o + k ≤ m := Nat.le_of_ble_eq_true h1
          show TR _ (if o + k ≤ c.size then T.ret (.agg (c.extract o (o + k)), w) else .bad)
          rw [if_pos (by rw [hcr.1]; exact hle)]
          have : c.extract o (o + k) = (t.seg undef k o).toArray := by
            apply Array.ext'; rw [hcr.seg k o hle]
          rw [this]
          exact .ret hs
        · exact .bad _
    · exact .bad _
  · exact .bad _
noncomputable def all1 (l : List Value) : Bool := List.rec true (fun v _ h => Bool.rec false h (one1 v)) l
theorem all1_eq : ∀ l : List Value, all1 l = l.all one1
  | [] => rfl
  | v :: l => by
    have : all1 (v :: l) = Bool.rec (motive := fun _ => Bool) false (all1 l) (one1 v) := rfl
    rw [this, all1_eq l, List.all_cons]
    cases one1 v <;> rfl
noncomputable def storeF (n : Nat) (a x : Value) (w : FW) : T (Value × FW) :=
  match a with
  | .pointer (some ⟨b, o, none⟩) =>
    match w.h.get b with
    | some (.cells m t e (0, 0)) =>
      match Nat.beq x.cells.toList.length n, Nat.ble (Nat.add o n) m, all1 x.cells.toList with
      | true, true, true => .ret (undef, w.set b (.cells m (Tr.put x.cells.toList t o) e (0, 0)))
      | _, _, _ => .bad
    | _ => .bad
  | _ => .bad
theorem store_tr (hs : SimW fw w) (n : Nat) (a x : Value) : TR (storeF n a x fw) (storeS n a x w) := by
  unfold storeF
  split
  · rename_i b o
    split
    · rename_i m t e hb
      obtain ⟨c, hc, hcr⟩ := hs.cells hb
      split
      · rename_i h1 h2 h3
        have e1 : x.cells.size = n := by have := Nat.eq_of_beq_eq_true h1; simpa using this
        have e2 : o + n ≤ m := Nat.le_of_ble_eq_true h2
        rw [all1_eq] at h3
        simp only [storeS, hc]
        rw [if_pos ⟨e1, by rw [hcr.1]; exact e2, h3⟩]
        refine .ret (hs.set hb ⟨_, rfl, CR.put _ o hcr ?_⟩)
        rw [Array.length_toList, e1]; exact e2
      · exact .bad _
    · exact .bad _
  · exact .bad _
noncomputable def pureF (f : World → T (Value × World)) (w : FW) : T (Value × FW) :=
  match f default with
  | .ret (v, _) => .ret (v, w)
  | _ => .bad
theorem pure_tr (hs : SimW fw w) (f : World → T (Value × World)) (hf : ∀ v w0, f default = .ret (v, w0) → f w = .ret (v, w)) : TR (pureF f fw) (f w) := by
  unfold pureF
  split
  · rename_i v w0 h
    rw [hf v w0 h]
    exact .ret hs
  · exact .bad _
theorem faddr_pure (off : Nat) (x : Value) (w : World) (v : Value) (w0 : World) (h : faddrS off x default = .ret (v, w0)) : faddrS off x w = .ret (v, w) := by
  unfold faddrS at *
  split at h
  · simp only [T.ret.injEq, Prod.mk.injEq] at h; rw [h.1]
  · cases h
theorem part_pure (n : Option Nat) (off : Nat) (x : Value) (w : World) (v : Value) (w0 : World) (h : partS n off x default = .ret (v, w0)) : partS n off x w = .ret (v, w) := by
  unfold partS at *
  split at h
  · split at h
    · split at h
      · rename_i h2
        simp only [T.ret.injEq, Prod.mk.injEq] at h; rw [h.1]
      · cases h
    · simp only [T.ret.injEq, Prod.mk.injEq] at h; rw [h.1]
  · cases h
theorem iaddr_pure (size : Nat) (x ix : Value) (w : World) (v : Value) (w0 : World) (h : iaddrS size x ix default = .ret (v, w0)) : iaddrS size x ix w = .ret (v, w) := by
  unfold iaddrS at *
  split at h
  · split at h
    · rename_i h2
      simp only [T.ret.injEq, Prod.mk.injEq] at h
      rw [if_pos h2, h.1]
    · cases h
  · cases h
theorem extract_pure (x : Value) (i : Nat) (w : World) (v : Value) (w0 : World) (h : extractS x i default = .ret (v, w0)) : extractS x i w = .ret (v, w) := by
  unfold extractS at *
  split at h
  · split at h
    · rename_i h2
      simp only [T.ret.injEq, Prod.mk.injEq] at h
      rw [h.1]
    · cases h
  · cases h
theorem len_pure (x : Value) (w : World) (v : Value) (w0 : World) (h : lenS x default = .ret (v, w0)) : lenS x w = .ret (v, w) := by
  unfold lenS at *
  split at h
  · simp only [T.ret.injEq, Prod.mk.injEq] at h; rw [h.1]
  · cases h
theorem fill_pure (ps : Array (Nat × Nat)) (z : Array Value) (parts : List (Nat × Value)) (w : World) (v : Value) (w0 : World) (h : fillS ps z parts default = .ret (v, w0)) : fillS ps z parts w = .ret (v, w) := by
  unfold fillS at *
  split at h
  · rename_i h2
    simp only [T.ret.injEq, Prod.mk.injEq] at h; rw [h.1]
  · cases h
noncomputable def FW.cells (w : FW) (l : List Value) (e : TypeId) : FW := w.push (.cells l.length (Tr.put l .lf 0) e (0, 0))
theorem SimW.cellsN (hs : SimW fw w) (c : Array Value) (e : TypeId) : SimW (fw.cells c.toList e) (World.push w (.cells c e)) :=
  hs.push ⟨c, rfl, by have := CR.of_list c.toList; simpa using this⟩
noncomputable def rowF (e : TypeId) (size len : Nat) (z : Array Value) (parts : List (Nat × Value)) (w : FW) : T (Value × FW) :=
  match Instr.fill (fun i => some (i * size, size)) z parts with
  | some cs => .ret (.slice (some ⟨w.n, 0, none⟩) len len, w.cells cs.toList e)
  | none => .bad
theorem row_tr (hs : SimW fw w) (e : TypeId) (size len : Nat) (z : Array Value) (parts : List (Nat × Value)) : TR (rowF e size len z parts fw) (rowS e size len z parts w) := by
  unfold rowF rowS
  split
  · rename_i cs h
    simp only [h]
    rw [hs.size]
    exact .ret (hs.cellsN cs e)
  · exact .bad _
noncomputable def lenMapF (x : Value) (w : FW) : T (Value × FW) :=
  match x with
  | .map none => .ret (.int .i64 0, w)
  | .map (some r) => match w.h.get r with
    | some (.other (.map es _)) => .ret (.int .i64 (es.size : Int), w)
    | _ => .bad
  | _ => .bad
theorem lenMap_tr (hs : SimW fw w) (x : Value) : TR (lenMapF x fw) (lenMapS x w) := by
  unfold lenMapF
  split
  · exact .ret hs
  · split
    · rename_i h
      simp only [lenMapS, hs.map h]
      exact .ret hs
    · exact .bad _
  · exact .bad _
noncomputable def lookupF (k : IntKind) (z x ix : Value) (ok : Bool) (w : FW) : T (Value × FW) :=
  match ix with
  | .int j i =>
    if j = k then
      match x with
      | .map none => .ret (if ok then .tuple #[z, .bool false] else z, w)
      | .map (some r) =>
        match w.h.get r with
        | some (.other (.map es _)) =>
          match Instr.findNow (.int k) (.int k i) es.toList 0 with
          | some (some (_, v)) => .ret (if ok then .tuple #[v, .bool true] else v, w)
          | some none => .ret (if ok then .tuple #[z, .bool false] else z, w)
          | none => .bad
        | _ => .bad
      | _ => .bad
    else .bad
  | _ => .bad
theorem lookup_tr (hs : SimW fw w) (k : IntKind) (z x ix : Value) (ok : Bool) : TR (lookupF k z x ix ok fw) (lookupS k z x ix ok w) := by
  unfold lookupF
  split
  · split
    · rename_i hj
      split
      · simp only [lookupS, if_pos hj]; exact .ret hs
      · split
        · rename_i h
          simp only [lookupS, if_pos hj, hs.map h]
          split
          · rename_i h2; simp only [h2]; exact .ret hs
          · rename_i h2; simp only [h2]; exact .ret hs
          · exact .bad _
        · exact .bad _
      · exact .bad _
    · exact .bad _
  · exact .bad _
noncomputable def updateF (k : IntKind) (m ix v : Value) (w : FW) : T (Value × FW) :=
  match ix, m with
  | .int j i, .map (some r) =>
    if j = k then
      match w.h.get r with
      | some (.other (.map es clock)) =>
        match Instr.findNow (.int k) (.int k i) es.toList 0 with
        | some (some (p, _)) => .ret (undef, w.set r (.other (.map (es.modify p fun e => { e with key := .int k i, val := v }) clock)))
        | some none => .ret (undef, w.set r (.other (.map (es.push { key := .int k i, val := v, born := clock }) (clock + 1))))
        | none => .bad
      | _ => .bad
    else .bad
  | _, _ => .bad
theorem update_tr (hs : SimW fw w) (k : IntKind) (m ix v : Value) : TR (updateF k m ix v fw) (updateS k m ix v w) := by
  unfold updateF
  split
  · split
    · rename_i hj
      split
      · rename_i h
        simp only [updateS, if_pos hj, hs.map h]
        split
        · rename_i h2; simp only [h2]; exact .ret (hs.set h ⟨rfl, fun _ _ _ h => by cases h⟩)
        · rename_i h2; simp only [h2]; exact .ret (hs.set h ⟨rfl, fun _ _ _ h => by cases h⟩)
        · exact .bad _
      · exact .bad _
    · exact .bad _
  · exact .bad _
noncomputable def deleteF (k : IntKind) (m ix : Value) (w : FW) : T (Value × FW) :=
  match ix, m with
  | .int j i, .map (some r) =>
    if j = k then
      match w.h.get r with
      | some (.other (.map es clock)) =>
        match Instr.findNow (.int k) (.int k i) es.toList 0 with
        | some (some (p, _)) => .ret (.tuple #[], w.set r (.other (.map (es.eraseIdxIfInBounds p) clock)))
        | some none => .ret (.tuple #[], w.set r (.other (.map es clock)))
        | none => .bad
      | _ => .bad
    else .bad
  | _, _ => .bad
theorem delete_tr (hs : SimW fw w) (k : IntKind) (m ix : Value) : TR (deleteF k m ix fw) (deleteS k m ix w) := by
  unfold deleteF
  split
  · split
    · rename_i hj
      split
      · rename_i h
        simp only [deleteS, if_pos hj, hs.map h]
        split
        · rename_i h2; simp only [h2]; exact .ret (hs.set h ⟨rfl, fun _ _ _ h => by cases h⟩)
        · rename_i h2; simp only [h2]; exact .ret (hs.set h ⟨rfl, fun _ _ _ h => by cases h⟩)
        · exact .bad _
      · exact .bad _
    · exact .bad _
  · exact .bad _
theorem slice_small (e : TypeId) (size : Nat) (x : Value) (lo hi mx : Option Value) (w : World) (hc : ∀ b n c, x = .slice b n c → c < OPEN) (v : Value) (w0 : World) (h : sliceS e size x lo hi mx default = .ret (v, w0)) : sliceS e size x lo hi mx w = .ret (v, w) := by
  unfold sliceS at *
  split at h
  · rename_i base len cap
    have := hc base len cap rfl
    split at h
    · rename_i l hh m h1 h2 h3
      simp only [if_pos this] at h ⊢
      split at h
      · rename_i h4
        simp only [T.ret.injEq, Prod.mk.injEq] at h
        rw [if_pos h4, h.1]
      · cases h
    · cases h
  · cases h
noncomputable def sliceF (e : TypeId) (size : Nat) (x : Value) (lo hi mx : Option Value) (w : FW) : T (Value × FW) :=
  match x with
  | .slice base len cap =>
    match Nat.ble (Nat.succ cap) OPEN with
    | true => pureF (sliceS e size x lo hi mx) w
    | false => match intO lo 0, intO hi len, intO mx cap, base with
      | some l, some h, some m, some ⟨b, o, none⟩ =>
        match w.h.get b with
        | some (.cells n _ e' (0, 0)) =>
          if cap = OPEN ∧ e' = e ∧ 0 < size ∧ 0 ≤ l ∧ l ≤ h then
            if mx = none then
              if h ≤ len ∨ o + h.toNat * size ≤ n then .ret (.slice (some ⟨b, o + l.toNat * size, none⟩) (h.toNat - l.toNat) OPEN, w) else .bad
            else if h ≤ m ∧ o + m.toNat * size ≤ n ∧ hi.isSome = true ∧ m.toNat < OPEN then
              .ret (.slice (some (if m.toNat = l.toNat then ⟨b, o, none⟩ else ⟨b, o + l.toNat * size, none⟩)) (h.toNat - l.toNat) (m.toNat - l.toNat), w)
            else .bad
          else .bad
        | _ => .bad
      | _, _, _, _ => .bad
  | _ => .bad
theorem slice_tr (hs : SimW fw w) (e : TypeId) (size : Nat) (x : Value) (lo hi mx : Option Value) : TR (sliceF e size x lo hi mx fw) (sliceS e size x lo hi mx w) := by
  unfold sliceF
  split
  · rename_i base len cap
    split
    · rename_i hc
      have hlt : cap < OPEN := Nat.le_of_ble_eq_true hc
      exact pure_tr hs _ (slice_small e size _ lo hi mx w (fun b n c h => by
        simp only [Value.slice.injEq] at h; rw [← h.2.2]; exact hlt))
    · rename_i hc
      have hlt : ¬ cap < OPEN := fun h => by
        have := Nat.ble_eq_true_of_le (show cap + 1 ≤ OPEN from h)
        rw [show Nat.succ cap = cap + 1 from rfl, this] at hc; cases hc
      split
      · rename_i l h m b o h1 h2 h3
        split
        · rename_i n t e' hb
          obtain ⟨c, hcc, hcr⟩ := hs.cells hb
          simp only [sliceS, h1, h2, h3, if_neg hlt, hcc, hcr.1]
          repeat' split
          all_goals first | exact .ret hs | exact .bad _
        · exact .bad _
      · exact .bad _
  · exact .bad _
end
end Go.Ideal
