/-
  The fast evaluator: the sort of numbers as an answer.
-/
import Derived.Test.YteljibbnpheekaaGreatFe
namespace Go.Ideal
open Go

noncomputable def insI (x : Int) (l : List Int) : List Int := List.rec (motive := fun _ => List Int) [x] (fun y l h => Bool.rec (motive := fun _ => List Int) (x :: y :: l) (y :: h) (ltI y x)) l
noncomputable def isortI (l : List Int) : List Int := List.rec (motive := fun _ => List Int) [] (fun x _ h => insI x h) l
theorem insI_cons (x y : Int) (l : List Int) : insI x (y :: l) = if y < x then y :: insI x l else x :: y :: l := by
  have : insI x (y :: l) = Bool.rec (motive := fun _ => List Int) (x :: y :: l) (y :: insI x l) (ltI y x) := rfl
  rw [this, ltI_eq]
  by_cases h : y < x
  · rw [decide_eq_true h, if_pos h]
  · rw [decide_eq_false h, if_neg h]
theorem insI_perm (x : Int) : ∀ l, (insI x l).Perm (x :: l)
  | [] => .refl _
  | y :: l => by
    rw [insI_cons]
    split
    · exact ((insI_perm x l).cons y).trans (.swap x y l)
    · exact .refl _
theorem isortI_perm : ∀ l, (isortI l).Perm l
  | [] => .refl _
  | x :: l => (insI_perm x (isortI l)).trans ((isortI_perm l).cons x)
theorem insI_srt (x : Int) : ∀ {l : List Int}, l.Pairwise (· ≤ ·) → (insI x l).Pairwise (· ≤ ·)
  | [], _ => by
    show ([x] : List Int).Pairwise _
    simp
  | y :: l, h => by
    have h1 := List.pairwise_cons.1 h
    rw [insI_cons]
    split
    · rename_i hl
      refine List.pairwise_cons.2 ⟨fun z hz => ?_, insI_srt x h1.2⟩
      rcases List.mem_cons.1 ((insI_perm x l).mem_iff.1 hz) with rfl | hz
      · omega
      · exact h1.1 z hz
    · rename_i hl
      refine List.pairwise_cons.2 ⟨fun z hz => ?_, h⟩
      rcases List.mem_cons.1 hz with rfl | hz
      · omega
      · have := h1.1 z hz; omega
theorem isortI_srt : ∀ l, (isortI l).Pairwise (· ≤ ·)
  | [] => .nil
  | x :: l => insI_srt x (isortI_srt l)
theorem isortI_eq (l : List Int) : isortI l = sorted l := by
  have hp : (isortI l).Perm (sorted l) := (isortI_perm l).trans (List.mergeSort_perm _ _).symm
  refine hp.eq_of_pairwise (le := fun a b => a ≤ b) (fun a b _ _ h1 h2 => Int.le_antisymm h1 h2) (isortI_srt l) ?_
  have := List.pairwise_mergeSort (le := fun x y : Int => decide (x ≤ y)) (fun a b c h1 h2 => by simp at *; omega) (fun a b => by simp; omega) l
  exact this.imp (fun h => by simpa using h)

noncomputable def sortF (args : Array Value) (w : FW) : T (Value × FW) :=
  match args.toList with
  | [.slice base n _] => match Nat.beq n 0, base with
    | true, _ => .ret (.tuple #[], w)
    | false, some ⟨b, o, none⟩ => match w.h.get b with
      | some (.cells m t e (0, 0)) => match Nat.ble (Nat.add o n) m, Nat.ble (Nat.succ n) 4611686018427387904, intsOf (t.seg undef n o) with
        | true, true, some zs => .ret (.tuple #[], w.set b (.cells m (Tr.put ((isortI zs).map (Value.int .i64)) t o) e (0, 0)))
        | _, _, _ => .bad
      | _ => .bad
    | _, _ => .bad
  | _ => .bad
theorem sort_tr {fw : FW} {w : World} (hs : SimW fw w) (args : Array Value) : TR (sortF args fw) (sortS args w) := by
  unfold sortF
  split
  · rename_i base n cap ha
    split
    · rename_i h0
      have h0' := Nat.eq_of_beq_eq_true h0
      simp only [sortS, ha, if_pos h0']
      exact .ret hs
    · rename_i b o h0
      have h0' : ¬ n = 0 := fun h => by subst h; cases h0
      split
      · rename_i m t e hb
        obtain ⟨c, hc, hcr⟩ := hs.cells hb
        split
        · rename_i zs h1 h2 h3
          have h1' : o + n ≤ m := Nat.le_of_ble_eq_true h1
          have h2' : n < 4611686018427387904 := Nat.le_of_ble_eq_true h2
          simp only [sortS, ha, if_neg h0', hc]
          rw [if_pos ⟨by rw [hcr.1]; exact h1', h2'⟩, hcr.seg n o h1', h3]
          have hl : zs.length = n := by
            have := congrArg List.length (intsOf_spec h3)
            rw [List.length_map] at this
            rw [← this, ← hcr.seg n o h1']
            have := hcr.1
            simp; omega
          simp only [← isortI_eq]
          refine .ret (hs.set hb ⟨_, rfl, CR.put _ o hcr ?_⟩)
          rw [List.length_map, (isortI_perm zs).length_eq, hl]
          exact h1'
        · exact .bad _
      · exact .bad _
    · exact .bad _
  · exact .bad _

noncomputable def sortFH (f0 : FuncId) : FAns := fun f a w => match Nat.beq f f0 with
  | true => some (sortF a w)
  | false => none
theorem sort_fh (f0 : FuncId) : FHOk (sortFH f0) (sortH f0) := fun f args fw w hs => by
  unfold sortFH
  cases h : Nat.beq f f0 with
  | true =>
    have := Nat.eq_of_beq_eq_true h
    exact ⟨sortS args w, by unfold sortH; rw [if_pos this], sort_tr hs args⟩
  | false =>
    have : ¬ f = f0 := fun e => by subst e; rw [Nat.beq_refl] at h; cases h
    show sortH f0 f args w = none
    unfold sortH; rw [if_neg this]

/-- A closed call that the fast evaluator finds true, in whatever memory. -/
def isTrueF : Value × FW → Bool
  | (.bool b, _) => b
  | _ => false
theorem isTrueF_spec {x : Value × FW} (h : isTrueF x = true) : x.1 = .bool true := by
  obtain ⟨v, w⟩ := x
  cases v with
  | bool b =>
    have h' : b = true := h
    subst h'
    rfl
  | _ => cases h
theorem calls_fast {P : Program} {G : GTab} (hG : GOk P G) {FH : FAns} {H : HeapAns} (hm : P.follows .mixedOrders = true) (hL : LaidH P H) (hH : FHOk FH H) {m : Nat} {f : FuncId} (h : ((frun P G FH m).enter f #[] fw0).allB isTrueF = true) (w : World) :
    Calls P f #[] w fun e w' => e = .returned (.bool true) ∧ RowKit.Below w.heap.size w w' := by
  have h1 : ((runH P H m).enter f #[] { (default : World) with heap := #[] }).all fun x => x.1 = .bool true :=
    (frun_ok hG hH m).enter f #[] fw0 _ _ sim0 (T.all_of_allB (fun a ha w' _ => isTrueF_spec ha) h)
  refine (calls_of_runH hm hL (R.start P w { (default : World) with heap := #[] } rfl) (AR.empty _) h1).mono fun e w' he => ?_
  cases e with
  | returned v' =>
    obtain ⟨β2, v, σ', _, hR', hv, hq⟩ := he
    simp only at hq
    subst hq
    cases hv
    exact ⟨rfl, hR'.below⟩
  | panicked c => exact he.elim
  | outgrown => exact he.elim

/-- Two sorts of answers. -/
noncomputable def orF (A B : FAns) : FAns := fun f a w => match A f a w with
  | some t => some t
  | none => B f a w
theorem FHOk.or {A B : FAns} {H K : HeapAns} (h : FHOk A H) (k : FHOk B K) : FHOk (orF A B) (orH H K) := fun f args fw w hs => by
  have h1 := h f args fw w hs
  unfold orF
  cases ha : A f args fw with
  | some t =>
    rw [ha] at h1
    obtain ⟨t', h2, h3⟩ := h1
    exact ⟨t', by unfold orH; rw [h2], h3⟩
  | none =>
    rw [ha] at h1
    have h2 := k f args fw w hs
    cases hb : B f args fw with
    | some t =>
      rw [hb] at h2
      obtain ⟨t', h3, h4⟩ := h2
      exact ⟨t', by unfold orH; rw [h1]; exact h3, h4⟩
    | none =>
      rw [hb] at h2
      show orH H K f args w = none
      unfold orH; rw [h1]; exact h2
end Go.Ideal
