/-
  The fast twin of Insert at rows of ints.
-/
import Derived.Test.YteljibbnpheekaaGreatTb
import Derived.Test.YteljibbnpheekaaGreatFi
namespace Go.Proofs.YteljibbnpheekaaGreat
open Go Go.Ideal
theorem ins_tr {fw : FW} {w : World} (hs : SimW fw w) (args : Array Value) : match insF 1 3 args fw with | some t => ∃ t', insS args w = some t' ∧ TR t t' | none => insS args w = none := by
  by_cases hsh : ∃ b o n cap i vb vo vc, args.toList = [.slice (some ⟨b, o, none⟩) n cap, .int .i64 i, .slice (some ⟨vb, vo, none⟩) 1 vc]
  · obtain ⟨b, o, n, cap, i, vb, vo, vc, harr⟩ := hsh
    cases i with
    | negSucc i =>
      have h1 : insF 1 3 args fw = none := by unfold insF; simp only [harr]
      have h2 : insS args w = none := by
        unfold insS; simp only [harr]; rw [if_neg (by simp only [Int.negSucc_eq]; omega)]
      rw [h1]; exact h2
    | ofNat i =>
      cases hin : Nat.ble (Nat.succ i) n with
      | false =>
        have hni : ¬ (i + 1 ≤ n) := fun h => by
          have := Nat.ble_eq_true_of_le h
          rw [show i + 1 = Nat.succ i from rfl, hin] at this; cases this
        have h1 : insF 1 3 args fw = none := by unfold insF; simp only [harr, hin]
        have h2 : insS args w = none := by
          unfold insS; simp only [harr]; rw [if_neg (by simp only [Int.ofNat_eq_natCast]; omega)]
        rw [h1]; exact h2
      | true =>
        have hi := Nat.le_of_ble_eq_true hin
        have hS : ∃ t', insS args w = some t' := by
          unfold insS; simp only [harr]
          rw [if_pos (by simp only [Int.ofNat_eq_natCast]; omega)]
          repeat' split
          all_goals exact ⟨_, rfl⟩
        have hbad : ∃ t', insS args w = some t' ∧ TR (T.bad : T (Value × FW)) t' := by
          obtain ⟨t', h⟩ := hS
          exact ⟨t', h, .bad _⟩
        have key : ∃ t, insF 1 3 args fw = some t ∧ ∃ t', insS args w = some t' ∧ TR t t' := by
          unfold insF
          simp only [harr, hin]
          split
          · rename_i m t e vm vt ve hb hvb
            obtain ⟨c, hc, hcr⟩ := hs.cells hb
            obtain ⟨v', hv', hvr⟩ := hs.cells hvb
            split
            · rename_i g1 g2 g3 g4 g5 g6
              split
              · rename_i a1 a2
                simp only [Nat.mul_one, Nat.mul_eq, Nat.add_eq, Nat.sub_eq] at g3 g4 a1 a2 ⊢
                simp only [Bool.and_eq_true, Bool.or_eq_true] at g1 g2
                obtain ⟨g2, g2'⟩ := g2
                have q1 := Nat.eq_of_beq_eq_true g2
                have q2 := Nat.eq_of_beq_eq_true g2'
                subst q1; subst q2
                have g1 : cap = OPEN ∨ cap = n := g1.elim (fun h => .inl (Nat.eq_of_beq_eq_true h)) (fun h => .inr (Nat.eq_of_beq_eq_true h))
                have k3 := Nat.le_of_ble_eq_true g3
                have k4 := Nat.le_of_ble_eq_true g4
                have k5 := Nat.le_of_ble_eq_true g5
                have k6 : ¬ vb = b := fun h => by subst h; rw [Nat.beq_refl] at g6; cases g6
                rw [all1_eq, ← hcr.seg n o k3] at a1
                rw [all1_eq, ← hvr.seg 1 vo k4] at a2
                refine ⟨_, rfl, _, by
                  unfold insS; simp only [harr]
                  rw [if_pos (by simp only [Int.ofNat_eq_natCast]; omega)]
                  simp only [hc, hv']
                  rw [if_pos ⟨g1, trivial, trivial, by rw [hcr.1]; exact k3, by rw [hvr.1]; exact k4, k5, k6, a1, a2⟩], ?_⟩
                rw [← hcr.seg i o (by omega), ← hvr.seg 1 vo k4, ← hcr.seg (n - i) (o + i) (by omega)]
                have hrow : (c.extract o (o + i)).toList ++ (v'.extract vo (vo + 1)).toList ++ (c.extract (o + i) (o + i + (n - i))).toList = (insRow c o n (Int.ofNat i).toNat (v'.extract vo (vo + 1))).toList := by
                  simp only [insRow, Array.toList_append, Int.toNat_natCast, Int.ofNat_eq_natCast]
                  rw [show o + i + (n - i) = o + n by omega]
                rw [hrow, hs.size]
                exact .ret (SimW.kill (hs.cellsN _ 3) (fo := .cells m t 3 (0, 0)) (by
                  show (Tr.set fw.h fw.n _).get b = _
                  rw [Tr.get_set, if_neg (by have := hs.lt hb; have := hs.size; omega)]
                  exact hb))
              · exact ⟨_, rfl, hbad⟩
            · exact ⟨_, rfl, hbad⟩
          · exact ⟨_, rfl, hbad⟩
        obtain ⟨t, h1, h2⟩ := key
        rw [h1]; exact h2
  · have h1 : insF 1 3 args fw = none := by
      unfold insF
      split
      · rename_i b o n cap i vb vo vc harr
        exact absurd ⟨_, _, _, _, _, _, _, _, harr⟩ hsh
      · rfl
    have h2 : insS args w = none := by
      unfold insS
      split
      · rename_i b o n cap i vb vo vc harr
        exact absurd ⟨_, _, _, _, _, _, _, _, harr⟩ hsh
      · rfl
    rw [h1]; exact h2
noncomputable def insFH (f0 : FuncId) : FAns := fun f a w => match Nat.beq f f0 with
  | true => insF 1 3 a w
  | false => none
theorem ins_fh (f0 : FuncId) : FHOk (insFH f0) (insH f0) := fun f args fw w hs => by
  unfold insFH
  cases h : Nat.beq f f0 with
  | false =>
    have : ¬ f = f0 := fun e => by subst e; rw [Nat.beq_refl] at h; cases h
    show insH f0 f args w = none
    unfold insH; rw [if_neg this]
  | true =>
    have hf := Nat.eq_of_beq_eq_true h
    have h1 := ins_tr hs args
    have h2 : insH f0 f args w = insS args w := by unfold insH; rw [if_pos hf]
    rw [h2]
    exact h1
end Go.Proofs.YteljibbnpheekaaGreat
