/-
  Buffers in memory; the document's flush.
-/
import Derived.Test.YtplcocifndpplaaPd
import Derived.ProofKit
namespace Go.Proofs.Ytplcocifndpplaa
open Go Go.Ideal

abbrev ptr (b : Nat) : Value := .pointer (some ⟨b, 0, none⟩)
abbrev i64 (n : Int) : Value := .int .i64 n
def In64 (n : Int) : Prop := -9223372036854775808 ≤ n ∧ n < 9223372036854775808

/-- A buffer: its size, and its lines. -/
def Buf (w : World) (e : TypeId) (b : Nat) (size : Int) (ls : List Line) : Prop :=
  ∃ v, cellsOf? w b = some (#[i64 size, v], e, (0, 0)) ∧ Lns w v ls ∧ ∀ j, blockOf v = some j → j ≠ b

/-- The blocks of a buffer. -/
def foot (w : World) (b : Nat) (j : Nat) : Prop := j = b ∨ ∃ s v e fz, cellsOf? w b = some (#[s, v], e, fz) ∧ blockOf v = some j

def Moves (w w' : World) (b : Nat) : Prop := Keeps w w' (foot w b) ∧ ∀ j, foot w' b j → foot w b j ∨ w.heap.size ≤ j

theorem Moves.refl (w : World) (b : Nat) : Moves w w b := ⟨Keeps.refl _ _, fun _ h => .inl h⟩
theorem Moves.trans {a b c : World} {x : Nat} (h : Moves a b x) (k : Moves b c x) : Moves a c x := by
  refine ⟨h.1.trans k.1 (fun _ _ h => h) (fun j hj hf => ?_), fun j hf => ?_⟩
  · rcases h.2 j hf with g | g
    · exact g
    · exact absurd g (by omega)
  · rcases k.2 j hf with g | g
    · exact h.2 j g
    · exact .inr (Nat.le_trans h.1.1 g)

theorem Lns.shape {w : World} {v : Value} {ls : List Line} (h : Lns w v ls) : ∃ vb vc, v = .slice vb ls.length vc := by
  rcases h with ⟨rfl, rfl⟩ | ⟨b, o, cap, c, rfl, _⟩
  · exact ⟨_, _, rfl⟩
  · exact ⟨_, _, rfl⟩

theorem row_one (c : Line) (w : World) : rowS 31 5 1 #[.int .i64 0, .int .i64 0, .int .i64 0, .int .i64 0, .bool false] [(0, .agg c.cells)] w = .ret (.slice (some ⟨w.heap.size, 0, none⟩) 1 1, World.push w (.cells c.cells 31)) := by
  simp [rowS, Instr.fill, Line.cells]

theorem row_none (w : World) : rowS 31 5 0 #[] [] w = .ret (.slice (some ⟨w.heap.size, 0, none⟩) 0 0, World.push w (.cells #[] 31)) := by
  simp [rowS, Instr.fill]

@[simp] theorem parts_nil (ρ : Regs) : partsOf ρ [] = [] := rfl
@[simp] theorem parts_cons (ρ : Regs) (p : Nat × Operand) (l : List (Nat × Operand)) : partsOf ρ (p :: l) = (p.1, ρ p.2) :: partsOf ρ l := rfl

theorem src_one {w : World} {r : Nat} {c : Line} (h : cellsOf? w r = some (c.cells, 31, (0, 0))) : Src w (.slice (some ⟨r, 0, none⟩) 1 1) [c] :=
  .inr ⟨r, 0, 1, c.cells, _, _, rfl, h, by simp [Line.cells], by simp [flatL, Line.cells]⟩

def flushL (ls : List Line) (s p n : Int) : List Line := if n < 1 then ls else ls.filter fun c => !meets c s p n

theorem flushL_right {ls : List Line} (h : ∀ c ∈ ls, lineRight c = true) (s p n : Int) : ∀ c ∈ flushL ls s p n, lineRight c = true := by
  unfold flushL
  split
  · exact h
  · exact fun c hc => h c (List.mem_filter.1 hc).1
theorem flushL_len (ls : List Line) (s p n : Int) : (flushL ls s p n).length ≤ ls.length := by
  unfold flushL
  split
  · exact Nat.le_refl _
  · exact List.length_filter_le _ _

def Lay (w w' : World) (e : TypeId) (b : Nat) (size : Int) (ls : List Line) : Prop := Buf w' e b size ls ∧ Moves w w' b

@[simp] theorem put_nil (c : Array Value) (o : Nat) : putCells c o [] = c := rfl
@[simp] theorem put_cons (c : Array Value) (o : Nat) (v : Value) (l : List Value) : putCells c o (v :: l) = putCells (c.setIfInBounds o v) (o + 1) l := rfl
@[simp] theorem store_at {n b o : Nat} {x : Value} {w : World} : storeS n (.pointer (some ⟨b, o, none⟩)) x w = match cellsOf? w b with
    | some (c, e, (0, 0)) => if x.cells.size = n ∧ o + n ≤ c.size ∧ x.cells.toList.all one1 = true then .ret (undef, World.set w b (.cells (putCells c o x.cells.toList) e)) else .bad
    | _ => .bad := rfl
@[simp] theorem one1_slice (a : Option Addr) (l c : Nat) : one1 (.slice a l c) = true := rfl
@[simp] theorem one1_int (k : IntKind) (n : Int) : one1 (.int k n) = true := rfl
@[simp] theorem one1_bool (b : Bool) : one1 (.bool b) = true := rfl
@[simp] theorem one1_ptr (a : Option Addr) : one1 (.pointer a) = true := rfl
@[simp] theorem one1_map (a : Option Nat) : one1 (.map a) = true := rfl

/-- The lines are laid anew. -/
theorem lay_set {w w' : World} {e : TypeId} {b : Nat} {size : Int} {v v9 : Value} {ls : List Line} (hv : cellsOf? w b = some (#[i64 size, v], e, (0, 0))) (hk : Keeps w w' (foot w b)) (hl : Lns w' v9 ls) (hf : ∀ j, blockOf v9 = some j → w.heap.size ≤ j ∨ (foot w b j ∧ j ≠ b)) :
    Lay w (World.set w' b (.cells #[i64 size, v9] e)) e b size ls := by
  have hb := cells_lt hv
  have hb' : b < w'.heap.size := Nat.lt_of_lt_of_le hb hk.1
  have hne : ∀ j, blockOf v9 = some j → j ≠ b := fun j hj => by rcases hf j hj with h | h; omega; exact h.2
  refine ⟨⟨v9, by simp [hb'], hl.keep (Keeps.set w' b _ (F := fun j => j = b) (fun _ => rfl)) (fun j hj => hne j hj), hne⟩, hk.trans (Keeps.set w' b _ (F := fun j => j = b) (fun _ => rfl)) (fun _ _ h => h) (fun j _ h => .inl h), fun j hj => ?_⟩
  rcases hj with rfl | ⟨s, u, e', fz, hc, hu⟩
  · exact .inl (.inl rfl)
  · rw [cells_set, if_pos ⟨rfl, hb'⟩] at hc
    simp only [Option.some.injEq, Prod.mk.injEq] at hc
    obtain ⟨hc, _⟩ := hc
    have : u = v9 := by
      have h2 := congrArg (fun a => a[1]?) hc
      simpa using h2.symm
    subst this
    rcases hf j hu with h | h
    · exact .inr h
    · exact .inl h.1

theorem run23 {K : Kont} {fuel : Nat} (hK : Has K) (hf : 2000 ≤ fuel) {w : World} {b : Nat} {size : Int} {ls : List Line} (hb : Buf w 38 b size ls) (hr : ∀ c ∈ ls, lineRight c = true) (hl : ls.length ≤ 1000) (s p n : Int) (hp : In64 p) (hn : In64 n) :
    wpGFn Try.prog K fuel 23 g23 #[ptr b, i64 s, i64 p, i64 n] w fun v w' => v = i64 ((ls.length : Int) - ((flushL ls s p n).length : Int)) ∧ Lay w w' 38 b size (flushL ls s p n) := by
  rw [gfn_start]
  by_cases hn1 : n < 1
  · simp [g23, hn1, flushL]
    exact ⟨hb, Moves.refl _ _⟩
  · obtain ⟨v, hv, hlns, hne⟩ := hb
    have hn2 : 1 ≤ n := by omega
    obtain ⟨vb, vc, hve⟩ := hlns.shape
    have hblt := cells_lt hv
    simp [g23, hn1]
    refine loop_go (fun i ρ w' => ∃ (q : Nat) (v9 : Value), i = ls.length - q ∧ q ≤ ls.length ∧ ρ 0 = ptr b ∧ ρ 1 = i64 s ∧ ρ 2 = i64 p ∧ ρ 3 = i64 n ∧ ρ 9 = v9 ∧ ρ 10 = i64 q ∧ Lns w' v9 ((ls.take q).filter fun c => !meets c s p n) ∧
      (∀ j, blockOf v9 = some j → w.heap.size ≤ j) ∧ Keeps w w' (fun _ => False)) ?_ (i := ls.length) ?_ (by simp; omega)
    · rintro i ρ w' ⟨q, v9, rfl, hq, h0, h1, h2, h3, h9, h10, hl9, hf9, hk⟩
      have hv' := hk.cells hv (fun h => h)
      have hlns' := hlns.keep hk (fun _ _ h => h)
      have w1 : IntKind.i64.wrap ((q : Int) + 1) = ((q + 1 : Nat) : Int) := by rw [IntKind.wrap_i64]; omega
      by_cases hql : q < ls.length
      · obtain ⟨lb, o, cap, c, hve', hc, hsz, hext⟩ := hlns'.line hql
        have hright := hr ls[q] (List.getElem_mem hql)
        have hmeet : ∀ w, K.enter 48 #[.agg ls[q].cells, .int .i64 s, .int .i64 p, .int .i64 n] w = .ret (.bool (meets ls[q] s p n), w) := fun w => hK.meets ls[q] s p n w hright hp ⟨hn2, hn.2⟩
        have htake : ls.take (q + 1) = ls.take q ++ [ls[q]] := by rw [List.take_succ_eq_append_getElem hql]
        cases hm : meets ls[q] s p n with
        | true =>
          simp [h0, h1, h2, h3, h9, h10, hv', hve', hc, hsz, hext, hql, hmeet, hm, w1]
          exact ⟨ls.length - (q + 1), by omega, q + 1, rfl, hql, by omega, by rw [htake, List.filter_append]; simpa [hm] using hl9, hf9, hk⟩
        | false =>
          simp [h0, h1, h2, h3, h9, h10, hv', hve', hc, hsz, hext, hql, hmeet, hm, row_one]
          have hpush : Keeps w' (World.push w' (.cells ls[q].cells 31)) (fun _ => False) := Keeps.push _ _ _
          refine app (ls := (ls.take q).filter fun c => !meets c s p n) (ms := [ls[q]]) (hl9.keep hpush (fun _ _ h => h)) (src_one (by simp)) (by have := List.length_filter_le (fun c => !meets c s p n) (ls.take q); have := List.length_take_le q ls; simp only [List.length_cons, List.length_nil]; omega) (fun v' w'' hl' hk' _ hb' => ?_)
          have hb' := hb' (by simp)
          simp [h0, h1, h2, h3, h10, w1]
          have hk2 : Keeps w w'' (fun _ => False) := hk.trans ((hpush.trans hk' (fun _ _ h => h.elim) (fun _ _ h => h)) : Keeps w' w'' (fun j => blockOf v9 = some j)) (fun _ _ h => h) (fun j hj hbj => by have := hf9 j hbj; omega)
          refine ⟨ls.length - (q + 1), by omega, q + 1, rfl, hql, by omega, by rw [htake, List.filter_append]; simpa [hm] using hl', fun j hj => ?_, hk2⟩
          rw [hb'] at hj
          simp only [Option.some.injEq] at hj
          have := hk.1
          simp at hj
          omega
      · have hqe : q = ls.length := by omega
        subst hqe
        rw [List.take_length] at hl9
        obtain ⟨xb, xc, hxe⟩ := hl9.shape
        have hfl := List.length_filter_le (fun c => !meets c s p n) ls
        have hfe : flushL ls s p n = ls.filter fun c => !meets c s p n := by simp [flushL, hn1]
        have w2 : IntKind.i64.wrap ((ls.length : Int) - ((ls.filter fun c => !meets c s p n).length : Int)) = (ls.length : Int) - ((ls.filter fun c => !meets c s p n).length : Int) := by rw [IntKind.wrap_i64]; omega
        simp [h0, h9, h10, hv', hve, hxe, w2, hfe]
        rw [← hxe]
        exact lay_set hv (hk.mono (fun _ _ h => h.elim)) hl9 (fun j hj => .inl (hf9 j hj))
    · exact ⟨0, .slice none 0 0, rfl, Nat.zero_le _, by simp, by simp, by simp, by simp, by simp, by simp, .inl ⟨rfl, by simp⟩, (fun j h => by cases h), Keeps.refl _ _⟩
end Go.Proofs.Ytplcocifndpplaa
/-! The document's buffer: Put, Drop, Look. -/
namespace Go.Proofs.Ytplcocifndpplaa
open Go Go.Ideal

@[simp] theorem line_size (c : Line) : c.cells.size = 5 := rfl
@[simp] theorem line_all (c : Line) : c.cells.extract 0 5 = c.cells := by simp [Line.cells]
@[simp] theorem line_0 (c : Line) : c.cells[0]? = some (i64 c.s) := rfl
@[simp] theorem line_1 (c : Line) : c.cells[1]? = some (i64 c.p) := rfl
@[simp] theorem line_2 (c : Line) : c.cells[2]? = some (i64 c.o) := rfl
@[simp] theorem line_3 (c : Line) : c.cells[3]? = some (i64 c.f) := rfl
@[simp] theorem line_4 (c : Line) : c.cells[4]? = some (.bool c.w) := rfl
@[simp] theorem line_veq (c : Line) : veq 4 (.agg c.cells) (.agg c.cells) = true := by simp [veq, Line.cells]
@[simp] theorem line_one (c : Line) : c.cells.toList.all one1 = true := rfl

theorem Lns.cell {w : World} {v : Value} {ls : List Line} (h : Lns w v ls) : v.cells = #[v] ∧ one1 v = true := by
  obtain ⟨vb, vc, rfl⟩ := h.shape
  exact ⟨rfl, rfl⟩

theorem Buf.foot_lt {w : World} {e : TypeId} {b : Nat} {size : Int} {ls : List Line} (h : Buf w e b size ls) {j : Nat} (hj : foot w b j) : j < w.heap.size := by
  obtain ⟨v, hv, hl, _⟩ := h
  rcases hj with rfl | ⟨s, u, e', fz, hc, hu⟩
  · exact cells_lt hv
  · rw [hv] at hc
    simp only [Option.some.injEq, Prod.mk.injEq] at hc
    have : u = v := by
      have h2 := congrArg (fun a => a[1]?) hc.1
      simpa using h2.symm
    subst this
    exact hl.block_lt hu

theorem Buf.keep {w w' : World} {e : TypeId} {b : Nat} {size : Int} {ls : List Line} {F : Nat → Prop} (h : Buf w e b size ls) (hk : Keeps w w' F) (hn : ∀ j, foot w b j → ¬ F j) : Buf w' e b size ls ∧ ∀ j, foot w' b j ↔ foot w b j := by
  obtain ⟨v, hv, hl, hne⟩ := h
  have hv' := hk.cells hv (hn b (.inl rfl))
  refine ⟨⟨v, hv', hl.keep hk (fun j hj => hn j (.inr ⟨_, v, _, _, hv, hj⟩)), hne⟩, fun j => ?_⟩
  unfold foot
  rw [hv, hv']

theorem Buf.block {w : World} {e : TypeId} {b : Nat} {size : Int} {v : Value} (hv : cellsOf? w b = some (#[i64 size, v], e, (0, 0))) {j : Nat} (hj : blockOf v = some j) : foot w b j := .inr ⟨_, v, _, _, hv, hj⟩

/-- What came behind counts from what was there. -/
theorem Moves.from {w w1 w' : World} {b : Nat} {F : Nat → Prop} (hk : Keeps w w1 F) (hF : ∀ j, j < w.heap.size → F j → foot w b j) (hf : ∀ j, foot w1 b j → foot w b j ∨ w.heap.size ≤ j) (h : Moves w1 w' b) : Moves w w' b := by
  refine ⟨hk.trans h.1 hF (fun j hj hf1 => ?_), fun j hj => ?_⟩
  · rcases hf j hf1 with g | g
    · exact g
    · omega
  · rcases h.2 j hj with g | g
    · exact hf j g
    · exact .inr (Nat.le_trans hk.1 g)

structure HasFlush9 (K : Kont) : Prop where
  go : ∀ {w : World} {b : Nat} {size : Int} {ls : List Line}, Buf w 38 b size ls → (∀ c ∈ ls, lineRight c = true) → ls.length ≤ 1000 → ∀ s p n, In64 p → In64 n →
    (K.enter 23 #[ptr b, i64 s, i64 p, i64 n] w).all fun r => r.1 = i64 ((ls.length : Int) - ((flushL ls s p n).length : Int)) ∧ Lay w r.2 38 b size (flushL ls s p n)

theorem hasFlush9 (m : Nat) (hm : 2001 ≤ m) : HasFlush9 (runA Try.prog sp5 m) := by
  obtain ⟨m, rfl⟩ : ∃ k, m = k + 2 := ⟨m - 2, by omega⟩
  exact ⟨fun hb hr hl s p n hp hn => enter_ok low23 rfl (run23 (has m) (by omega) hb hr hl s p n hp hn)⟩

def putL (ls : List Line) (size : Int) (c : Line) : List Line :=
  (if size ≤ ((flushL ls c.s c.p (sizeOf c.o)).length : Int) then (flushL ls c.s c.p (sizeOf c.o)).drop 1 else flushL ls c.s c.p (sizeOf c.o)) ++ [c]

theorem tail62 {K : Kont} {fuel : Nat} {w w3 : World} {b x : Nat} {size : Int} {v v3 : Value} {l3 : List Line} {c : Line} {Q : Value → World → Prop} {ρ : Env} (hv : cellsOf? w b = some (#[i64 size, v], 38, (0, 0))) (h0 : ρ 0 = ptr b) (h3 : ρ 3 = ptr x)
    (hv3 : cellsOf? w3 b = some (#[i64 size, v3], 38, (0, 0))) (hx : cellsOf? w3 x = some (c.cells, 31, (0, 0))) (hl3 : Lns w3 v3 l3) (hlen : l3.length ≤ 1000) (hk : Keeps w w3 (foot w b)) (_hbx : b ≠ x)
    (hQ : ∀ w', Lay w w' 38 b size (l3 ++ [c]) → Q (i64 0) w') : codeR ⟨Try.prog, K, fuel, 62, none, 47, finPost Try.prog [⟨4, none⟩] Q⟩ t62 [] ρ [] w3 := by
  obtain ⟨vb, vc, hve⟩ := hl3.shape
  have e1 : ¬ x = w3.heap.size := Nat.ne_of_lt (cells_lt hx)
  have e2 : ¬ b = w3.heap.size := Nat.ne_of_lt (cells_lt hv3)
  simp [t62, h0, h3, hv3, hx, hve, row_none, e1, e2]
  have hp1 : Keeps w3 (World.push w3 (.cells #[] 31)) (fun _ => False) := Keeps.push _ _ _
  have hempty : Lns (World.push w3 (.cells #[] 31)) (.slice (some ⟨w3.heap.size, 0, none⟩) 0 0) [] := .inr ⟨w3.heap.size, 0, 0, #[], rfl, by simp, Nat.zero_le _, .inl ⟨rfl, rfl⟩⟩
  refine app hempty (by rw [← hve]; exact (hl3.keep hp1 (fun _ _ h => h)).src) (by simp; omega) (fun v4 w4 hl4 hk4 hnil hnn => ?_)
  rw [List.nil_append] at hl4
  have hk4' : Keeps w3 w4 (fun _ => False) := hp1.trans hk4 (fun _ _ h => h) (fun j hj hb => by simp [blockOf] at hb; omega)
  have hb4 : ∀ j, blockOf v4 = some j → w3.heap.size ≤ j := fun j hj => by
    by_cases hm : l3 = []
    · rw [(hnil hm).1] at hj; simp [blockOf] at hj; omega
    · rw [hnn hm] at hj; simp at hj; omega
  have hx4 := hk4'.cells hx (fun h => h)
  have hv4 := hk4'.cells hv3 (fun h => h)
  have e3 : ¬ x = w4.heap.size := Nat.ne_of_lt (cells_lt hx4)
  have e4 : ¬ b = w4.heap.size := Nat.ne_of_lt (cells_lt hv4)
  simp [h3, hx4, hv4, hve, row_one, e4]
  have hp2 : Keeps w4 (World.push w4 (.cells c.cells 31)) (fun _ => False) := Keeps.push _ _ _
  refine app (hl4.keep hp2 (fun _ _ h => h)) (src_one (c := c) (by simp)) (by simp; omega) (fun v5 w5 hl5 hk5 _ hnn5 => ?_)
  have hb5 := hnn5 (by simp)
  have hk5' : Keeps w3 w5 (fun _ => False) := hk4'.trans (hp2.trans hk5 (H := fun j => blockOf v4 = some j) (fun _ _ h => h.elim) (fun _ _ h => h)) (fun _ _ h => h) (fun j hj hb => by have := hb4 j hb; omega)
  have hv5 := hk5'.cells hv3 (fun h => h)
  obtain ⟨hc5, ho5⟩ := hl5.cell
  simp [hv5, hve, hc5, ho5]
  refine hQ _ (lay_set hv (hk.trans hk5' (fun _ _ h => h) (fun _ _ h => h.elim)) hl5 (fun j hj => .inl ?_))
  rw [hb5] at hj
  simp only [Option.some.injEq, size_push] at hj
  have := hk4'.1
  have := hk.1
  omega

theorem run62 {K : Kont} {fuel : Nat} (hK : Has K) (hF : HasFlush9 K) {w : World} {b : Nat} {size : Int} {ls : List Line} (hb : Buf w 38 b size ls) (hr : ∀ c ∈ ls, lineRight c = true) (hl : ls.length ≤ 900) (hsz : 1 ≤ size) (c : Line) :
    wpGFn Try.prog K fuel 62 g62 #[ptr b, c.val] w fun v w' => (lineRight c = false ∧ v = i64 2 ∧ Lay w w' 38 b size ls) ∨ (lineRight c = true ∧ v = i64 0 ∧ Lay w w' 38 b size (putL ls size c)) := by
  rw [gfn_start]
  have h21 := fun w => hK.right21 c w
  obtain ⟨hb1, hf1⟩ := hb.keep (Keeps.push w (.cells c.cells 31) (fun _ => False)) (fun _ _ h => h)
  have hm1 : Moves w (World.push w (.cells c.cells 31)) b := ⟨Keeps.push _ _ _, fun j hj => .inl ((hf1 j).1 hj)⟩
  cases hc : lineRight c with
  | false =>
    simp only [hc, Line.val] at h21
    simp [g62, Line.val, h21]
    exact ⟨hb1, hm1⟩
  | true =>
    simp only [hc, Line.val] at h21
    obtain ⟨_, _, hc1, hc2, _⟩ := lineRight_spec hc
    have hs := size_cases c.o
    simp [g62, Line.val, h21, hK.size]
    refine valA_of (hF.go hb1 hr (by omega) c.s c.p (sizeOf c.o) ⟨by omega, by omega⟩ ⟨by omega, by omega⟩) (fun v w2 hq => ?_)
    obtain ⟨_, ⟨v2, hv2, hl2, hne2⟩, hmv⟩ := hq
    simp only at hv2 hl2 hmv
    obtain ⟨vb, vc, hve⟩ := hl2.shape
    obtain ⟨v0, hv0, hl0, hne0⟩ := id hb
    have hbox : cellsOf? w2 w.heap.size = some (c.cells, 31, (0, 0)) := hmv.1.cells (by simp) (fun h => by have := hb.foot_lt ((hf1 _).1 h); omega)
    have hfl := flushL_len ls c.s c.p (sizeOf c.o)
    have hbw : b ≠ w.heap.size := Nat.ne_of_lt (cells_lt hv0)
    have hk2 : Keeps w w2 (foot w b) := (hm1.trans hmv).1
    by_cases hfull : size ≤ ((flushL ls c.s c.p (sizeOf c.o)).length : Int)
    · simp [hv2, hve, hfull]
      rw [← hve]
      refine cut_one hl2 (by omega) (by omega) (fun v3 hl3 hb3 => ?_)
      obtain ⟨hc3, ho3⟩ := hl3.cell
      simp [hv2, hve, hc3, ho3]
      have hset : Keeps w2 (World.set w2 b (.cells #[i64 size, v3] 38)) (fun j => j = b) := Keeps.set _ _ _ (fun _ => rfl)
      refine tail62 (w := w) (x := w.heap.size) (c := c) (v3 := v3) (l3 := (flushL ls c.s c.p (sizeOf c.o)).drop 1) hv0 (by simp) (by simp) ?_ ?_ (hl3.keep hset (fun j hj => hne2 j (by rw [← hb3]; exact hj))) (by simp; omega) (hk2.trans hset (fun _ _ h => h) (fun _ _ h => .inl h)) hbw (fun w' h => ?_)
      · simp [cells_lt hv2]
      · exact hset.cells hbox (fun h => hbw h.symm)
      · simp only [putL, hfull, if_true]; exact ⟨trivial, h⟩
    · simp [hv2, hve, hfull]
      refine tail62 (w := w) (x := w.heap.size) (c := c) (v3 := v2) (l3 := flushL ls c.s c.p (sizeOf c.o)) hv0 (by simp) (by simp) hv2 hbox hl2 (by omega) hk2 hbw (fun w' h => ?_)
      simp only [putL, hfull, if_false]; exact ⟨trivial, h⟩
end Go.Proofs.Ytplcocifndpplaa
/-! The document's buffer: Drop, Look. -/
namespace Go.Proofs.Ytplcocifndpplaa
open Go Go.Ideal

def cutB (v : Value) (i : Nat) : Value := match v with
  | .slice base len cap => if cap < OPEN then .slice (if cap = i then base else base.map (·.add (i * 5))) (len - i) (cap - i) else
    match base with
    | some a => .slice (some ⟨a.block, a.off + i * 5, none⟩) (len - i) OPEN
    | none => .slice none 0 0
  | v => v
def cutA (v : Value) (i : Nat) : Value := match v with
  | .slice base _ cap => .slice base i cap
  | v => v

theorem cutB_eq {w : World} {v : Value} {ls : List Line} {k : IntKind} {i : Nat} {n : Int} (h : Lns w v ls) (hi : i ≤ ls.length) (hroom : ls.length ≤ 1000000) (hn : n = i) : sliceS 31 5 v (some (.int k n)) none none w = .ret (cutB v i, w) := by
  subst hn
  have hO : OPEN = 4611686018427387904 := rfl
  rcases h with ⟨rfl, rfl⟩ | ⟨b, o, cap, c, rfl, hc, h1, ⟨rfl, rfl⟩ | ⟨h2, h3⟩⟩
  · have : i = 0 := by simpa using hi
    subst this
    unfold sliceS
    simp only [intO]
    rw [if_pos (by omega), if_pos (by simp)]
    simp [cutB, hO]
  · have : i = 0 := by simpa using hi
    subst this
    unfold sliceS
    simp only [intO]
    rw [if_pos (by omega), if_pos (by simp)]
    simp [cutB, hO]
  · have hsz := Lns.size h1 h2
    unfold sliceS
    simp only [intO]
    rcases h3 with rfl | ⟨rfl, hcap⟩
    · rw [if_neg (Nat.lt_irrefl _)]
      simp only [hc]
      rw [if_pos ⟨trivial, trivial, by omega, by omega, by omega⟩]
      simp only [if_true, Int.le_refl, Int.toNat_natCast, cutB]
      rw [if_neg (Nat.lt_irrefl _)]
    · rw [if_pos hcap, if_pos ⟨by omega, by omega, by omega, by omega, fun h => by cases h⟩]
      simp only [Int.toNat_natCast, cutB]
      rw [if_pos hcap]

theorem cutA_eq {w : World} {v : Value} {ls : List Line} {k : IntKind} {i : Nat} {n : Int} (h : Lns w v ls) (hi : i ≤ ls.length) (hroom : ls.length ≤ 1000000) (hn : n = i) : sliceS 31 5 v none (some (.int k n)) none w = .ret (cutA v i, w) := by
  subst hn
  have hO : OPEN = 4611686018427387904 := rfl
  rcases h with ⟨rfl, rfl⟩ | ⟨b, o, cap, c, rfl, hc, h1, ⟨rfl, rfl⟩ | ⟨h2, h3⟩⟩
  · have : i = 0 := by simpa using hi
    subst this
    unfold sliceS
    simp only [intO]
    rw [if_pos (by omega), if_pos (by simp)]
    simp [cutA]
  · have : i = 0 := by simpa using hi
    subst this
    unfold sliceS
    simp only [intO]
    rw [if_pos (by omega), if_pos (by simp)]
    simp [cutA]
  · have hsz := Lns.size h1 h2
    unfold sliceS
    simp only [intO]
    rcases h3 with rfl | ⟨rfl, hcap⟩
    · rw [if_neg (Nat.lt_irrefl _)]
      simp only [hc]
      rw [if_pos ⟨trivial, trivial, by omega, by omega, by omega⟩]
      simp only [if_true, Int.toNat_natCast]
      rw [if_pos (by omega)]
      simp [cutA]
    · rw [if_pos hcap, if_pos ⟨by omega, by omega, by omega, by omega, fun h => by cases h⟩]
      simp only [Int.toNat_natCast, cutA]
      split <;> simp [Addr.add_off]

theorem cutB_lns {w : World} {v : Value} {ls : List Line} {i : Nat} (h : Lns w v ls) (hi : i ≤ ls.length) (hroom : ls.length ≤ 1000000) : Lns w (cutB v i) (ls.drop i) ∧ blockOf (cutB v i) = blockOf v := by
  have h1 := cut_behind (k := .i64) (Q := fun r => Lns w r.1 (ls.drop i) ∧ blockOf r.1 = blockOf v) h hi hroom (fun v' a b => ⟨a, b⟩)
  rw [cutB_eq h hi hroom rfl] at h1
  exact h1
theorem cutA_src {w : World} {v : Value} {ls : List Line} {i : Nat} (h : Lns w v ls) (hi : i ≤ ls.length) (hroom : ls.length ≤ 1000000) : Src w (cutA v i) (ls.take i) := by
  have h1 := cut_ahead (k := .i64) (Q := fun r => Src w r.1 (ls.take i)) h hi hroom (fun v' a => a)
  rw [cutA_eq h hi hroom rfl] at h1
  exact h1
theorem Src.shape {w : World} {v : Value} {ls : List Line} (h : Src w v ls) : ∃ vb vc, v = .slice vb ls.length vc := by
  rcases h with ⟨rfl, rfl⟩ | ⟨b, o, cap, c, e, fz, rfl, _⟩
  · exact ⟨_, _, rfl⟩
  · exact ⟨_, _, rfl⟩
theorem Src.keep {w w' : World} {v : Value} {ls : List Line} (h : Src w v ls) (hk : Keeps w w' (fun _ => False)) : Src w' v ls := by
  rcases h with h | ⟨b, o, cap, c, e, fz, rfl, hc, h1⟩
  · exact .inl h
  · exact .inr ⟨b, o, cap, c, e, fz, rfl, hk.cells hc (fun h => h), h1⟩

@[simp] theorem slice_self (a : Option Addr) (l c : Nat) : veq 4 (.slice a l c) (.slice a l c) = true := by simp

theorem Lns.len {w w' : World} {v : Value} {ls : List Line} (h : Lns w v ls) : lenS v w' = .ret (.int .i64 (ls.length : Int), w') := by
  obtain ⟨vb, vc, rfl⟩ := h.shape; rfl

def dropL (ls : List Line) (i : Nat) : List Line := ls.take i ++ ls.drop (i + 1)

theorem veq_slice_self {v : Value} (h : ∃ b l c, v = .slice b l c) : veq 4 v v = true := by
  obtain ⟨b, l, c, rfl⟩ := h; simp

theorem run63 {K : Kont} {fuel : Nat} {w : World} {b : Nat} {size : Int} {ls : List Line} (hb : Buf w 38 b size ls) (hl : ls.length ≤ 1000) (i : Int) (hi : In64 i) :
    wpGFn Try.prog K fuel 63 g63 #[ptr b, i64 i] w fun v w' => ((i < 0 ∨ (ls.length : Int) ≤ i) ∧ v = i64 3 ∧ Lay w w' 38 b size ls) ∨ ((0 ≤ i ∧ i < ls.length) ∧ v = i64 0 ∧ Lay w w' 38 b size (dropL ls i.toNat)) := by
  rw [gfn_start]
  obtain ⟨v, hv, hlns, hne⟩ := id hb
  obtain ⟨vb, vc, hve⟩ := hlns.shape
  by_cases h1 : i < 0
  · simp [g63, h1]
    exact ⟨hb, Moves.refl _ _⟩
  · by_cases h2 : (ls.length : Int) ≤ i
    · simp [g63, h1, hv, hlns.len, h2]
      exact ⟨hb, Moves.refl _ _⟩
    · obtain ⟨q, rfl⟩ : ∃ q : Nat, i = q := ⟨i.toNat, by omega⟩
      have hql : q < ls.length := by omega
      have w1 : IntKind.i64.wrap ((q : Int) + 1) = (q : Int) + 1 := by rw [IntKind.wrap_i64]; omega
      have hp1 : Keeps w (World.push w (.cells #[] 31)) (fun _ => False) := Keeps.push _ _ _
      have hl1 := hlns.keep hp1 (fun _ _ h => h)
      have a0 := fun w (h : Lns w v ls) => cutA_eq (k := .i64) (n := (q : Int)) h (Nat.le_of_lt hql) (by omega) rfl
      have b0 := fun w (h : Lns w v ls) => cutB_eq (k := .i64) (i := q + 1) (n := (q : Int) + 1) h hql (by omega) (by omega)
      have sA := cutA_src hlns (Nat.le_of_lt hql) (by omega)
      obtain ⟨sB, bB⟩ := cutB_lns (i := q + 1) hlns hql (by omega)
      have vA := veq_slice_self (v := cutA v q) (by obtain ⟨x, y, h⟩ := sA.shape; exact ⟨_, _, _, h⟩)
      have vB := veq_slice_self (v := cutB v (q + 1)) (by obtain ⟨x, y, h⟩ := sB.shape; exact ⟨_, _, _, h⟩)
      have vV := veq_slice_self (v := v) ⟨_, _, _, hve⟩
      have e2 : ¬ b = w.heap.size := Nat.ne_of_lt (cells_lt hv)
      have hempty : Lns (World.push w (.cells #[] 31)) (.slice (some ⟨w.heap.size, 0, none⟩) 0 0) [] := .inr ⟨w.heap.size, 0, 0, #[], rfl, by simp, Nat.zero_le _, .inl ⟨rfl, rfl⟩⟩
      simp [g63, h1, hv, hlns.len, h2, w1, a0 _ hlns, b0 _ hlns, a0 _ hl1, b0 _ hl1, row_none, e2, vA, vB, vV]
      refine app hempty (sA.keep hp1) (by simp; omega) (fun v4 w4 hl4 hk4 hnil hnn => ?_)
      rw [List.nil_append] at hl4
      have hk4' : Keeps w w4 (fun _ => False) := hp1.trans hk4 (fun _ _ h => h) (fun j hj hb => by simp [blockOf] at hb; omega)
      have hb4 : ∀ j, blockOf v4 = some j → w.heap.size ≤ j := fun j hj => by
        by_cases hm : ls.take q = []
        · rw [(hnil hm).1] at hj; simp [blockOf] at hj; omega
        · rw [hnn hm] at hj; simp at hj; omega
      have hv4 := hk4'.cells hv (fun h => h)
      have hl44 := hlns.keep hk4' (fun _ _ h => h)
      simp [hv4, b0 _ hl44, vB, vV]
      refine app hl4 (sB.src.keep hk4') (by simp; omega) (fun v5 w5 hl5 hk5 hnil5 hnn5 => ?_)
      have hk5' : Keeps w w5 (fun _ => False) := hk4'.trans hk5 (fun _ _ h => h) (fun j hj hb => by have := hb4 j hb; omega)
      have hv5 := hk5'.cells hv (fun h => h)
      obtain ⟨hc5, ho5⟩ := hl5.cell
      simp [hv5, hc5, ho5]
      refine ⟨hql, lay_set hv (hk5'.mono (fun _ _ h => h.elim)) hl5 (fun j hj => .inl ?_)⟩
      by_cases hm : ls.drop (q + 1) = []
      · rw [(hnil5 hm).1] at hj; exact hb4 j hj
      · rw [hnn5 hm] at hj
        simp only [Option.some.injEq] at hj
        have := hk4'.1
        omega
end Go.Proofs.Ytplcocifndpplaa
/-! The document's buffer: Look. Rows held against each other. -/
namespace Go.Proofs.Ytplcocifndpplaa
open Go Go.Ideal

def zeroL : Line := ⟨0, 0, 0, 0, false⟩
def lookL (ls : List Line) (s p : Int) : Option Line := ls.find? fun c => lineHolds c s p
def lookV (r : Option Line) : Value := .tuple #[(r.getD zeroL).val, .bool r.isSome]

theorem find_take {ls : List Line} {f : Line → Bool} {q : Nat} (hq : q < ls.length) (h : ∀ c ∈ ls.take q, f c = false) (hh : f ls[q] = true) : ls.find? f = some ls[q] := by
  have e : ls = ls.take q ++ ls[q] :: ls.drop (q + 1) := by rw [← List.drop_eq_getElem_cons hq, List.take_append_drop]
  have : (ls.take q ++ ls[q] :: ls.drop (q + 1)).find? f = some ls[q] := by
    rw [List.find?_append, List.find?_eq_none.2 (fun c hc => by simp [h c hc]), List.find?_cons_of_pos hh]
    rfl
  rw [← e] at this
  exact this

@[simp] theorem zero_cells : (#[.int .i64 0, .int .i64 0, .int .i64 0, .int .i64 0, .bool false] : Array Value) = zeroL.cells := rfl
theorem build_zero (w : World) : fillS #[(0, 1), (1, 1), (2, 1), (3, 1), (4, 1)] zeroL.cells [] w = .ret (.agg zeroL.cells, w) := rfl

@[simp] theorem line_one' (c : Line) : c.cells.all one1 0 5 = true := by simp [Line.cells]
@[simp] theorem put_line (c d : Line) : putCells c.cells 0 d.cells.toList = d.cells := by simp [Line.cells]

theorem run17 {K : Kont} {fuel : Nat} (hK : Has K) (hf : 2000 ≤ fuel) {w : World} {b : Nat} {size : Int} {ls : List Line} (hb : Buf w 38 b size ls) (hr : ∀ c ∈ ls, lineRight c = true) (hl : ls.length ≤ 1000) (s p : Int) :
    wpGFn Try.prog K fuel 17 g17 #[ptr b, i64 s, i64 p] w fun v w' => v = lookV (lookL ls s p) ∧ Keeps w w' (fun _ => False) := by
  rw [gfn_start]
  obtain ⟨v, hv, hlns, hne⟩ := id hb
  have hp1 : Keeps w (World.push w (.cells zeroL.cells 31)) (fun _ => False) := Keeps.push _ _ _
  simp [g17]
  refine loop_go (fun i ρ w' => ∃ (q : Nat), i = ls.length - q ∧ q ≤ ls.length ∧ ρ 0 = ptr b ∧ ρ 1 = i64 s ∧ ρ 2 = i64 p ∧ ρ 6 = ptr w.heap.size ∧ ρ 7 = .bool false ∧ ρ 8 = i64 q ∧ cellsOf? w' w.heap.size = some (zeroL.cells, 31, (0, 0)) ∧
    Keeps w w' (fun _ => False) ∧ ∀ c ∈ ls.take q, lineHolds c s p = false) ?_ (i := ls.length) ?_ (by simp; omega)
  · rintro i ρ w' ⟨q, rfl, hq, h0, h1, h2, h6, h7, h8, hz, hk, hno⟩
    have hv' := hk.cells hv (fun h => h)
    have hlns' := hlns.keep hk (fun _ _ h => h)
    have w1 : IntKind.i64.wrap ((q : Int) + 1) = (q : Int) + 1 := by rw [IntKind.wrap_i64]; omega
    have hzlt := cells_lt hz
    by_cases hql : q < ls.length
    · obtain ⟨lb, o, cap, c, hve', hc, hsz, hext⟩ := hlns'.line hql
      have hright := hr ls[q] (List.getElem_mem hql)
      have htake : ls.take (q + 1) = ls.take q ++ [ls[q]] := by rw [List.take_succ_eq_append_getElem hql]
      have hh : ∀ w, K.enter 20 #[.agg ls[q].cells, .int .i64 s, .int .i64 p] w = .ret (.bool (lineHolds ls[q] s p), w) := fun w => hK.holds ls[q] s p w hright
      cases hm : lineHolds ls[q] s p with
      | true =>
        have hfind : lookL ls s p = some ls[q] := find_take hql hno hm
        simp [h0, h1, h2, h6, h8, hv', hve', hc, hsz, hext, hql, hh, hm, hz, hzlt, hfind, lookV, Line.val]
        exact hk.trans (Keeps.set _ _ _ (F := fun j => j = w.heap.size) (fun _ => rfl)) (fun _ _ h => h) (fun j hj h => by omega)
      | false =>
        simp [h0, h1, h2, h6, h7, h8, hv', hve', hc, hsz, hext, hql, hh, hm, w1]
        refine ⟨ls.length - (q + 1), by omega, q + 1, rfl, hql, by omega, hz, hk, ?_⟩
        rw [htake]
        intro c hc
        rw [List.mem_append, List.mem_singleton] at hc
        rcases hc with hc | rfl
        · exact hno c hc
        · exact hm
    · have hqe : q = ls.length := by omega
      subst hqe
      rw [List.take_length] at hno
      have hfind : lookL ls s p = none := List.find?_eq_none.2 fun c hc => by simp [hno c hc]
      simp [h0, h6, h8, hv', hlns.len, hz, hzlt, hfind, lookV, Line.val, build_zero]
      exact hk.trans (Keeps.set _ _ _ (F := fun j => j = w.heap.size) (fun _ => rfl)) (fun _ _ h => h) (fun j hj h => by omega)
  · exact ⟨0, rfl, Nat.zero_le _, by simp, by simp, by simp, by simp, by simp, by simp, by simp, hp1, by simp⟩
end Go.Proofs.Ytplcocifndpplaa
/-! What is held against each other; a buffer anew. -/
namespace Go.Proofs.Ytplcocifndpplaa
open Go Go.Ideal

theorem eq_nil {P : Program} {t : TypeId} {o1 o2 : Operand} {p : Option Addr} {w : World} (hu : P.underlying t = some (.pointer (P.pointee t))) (he : eqTy P 5 t = true) : binS P .eql t o1 o2 (.pointer p) (.pointer none) w = .ret (.bool p.isNone, w) := by
  have hf : binFit P .eql t (.pointer p) (.pointer none) = true := by cases p <;> simp [binFit, he, eqFit]
  unfold binS
  simp only [hf, if_true]
  rw [eqGuard_none _ _ _ _ _ _ (fun _ h => by cases h) (fun h => by cases h)]
  simp only [Sem.run_bind, Sem.run_pure, Result.andThen, run_eql_pointer_nil w t p hu, ofRun]

theorem nil25 {o1 o2 : Operand} {p : Option Addr} {w : World} : binS Try.prog .eql 25 o1 o2 (.pointer p) (.pointer none) w = .ret (.bool p.isNone, w) := eq_nil (by kernel_rfl) (by kernel_rfl)
theorem nil26 {o1 o2 : Operand} {p : Option Addr} {w : World} : binS Try.prog .eql 26 o1 o2 (.pointer p) (.pointer none) w = .ret (.bool p.isNone, w) := eq_nil (by kernel_rfl) (by kernel_rfl)

theorem bool_ne {o1 o2 : Operand} {a b : Bool} {w : World} : binS Try.prog .neq 4 o1 o2 (.bool a) (.bool b) w = .ret (.bool (a != b), w) := by
  have hf : binFit Try.prog .neq 4 (.bool a) (.bool b) = true := by
    have he : eqTy Try.prog 5 4 = true := by kernel_rfl
    simp [binFit, he, eqFit]
  unfold binS
  simp only [hf, if_true]
  rw [eqGuard_none _ _ _ _ _ _ (fun _ h => by cases h) (fun h => by cases h)]
  simp only [Sem.run_bind, Sem.run_pure, Result.andThen, binOp, Op.equal, Op.maxDepth, run_equalIn_bool' w 9999 4 a b Try.underlying4, ofRun]
  rfl
theorem bool_eq {o1 o2 : Operand} {a b : Bool} {w : World} : binS Try.prog .eql 4 o1 o2 (.bool a) (.bool b) w = .ret (.bool (a == b), w) := by
  have hf : binFit Try.prog .eql 4 (.bool a) (.bool b) = true := by
    have he : eqTy Try.prog 5 4 = true := by kernel_rfl
    simp [binFit, he, eqFit]
  unfold binS
  simp only [hf, if_true]
  rw [eqGuard_none _ _ _ _ _ _ (fun _ h => by cases h) (fun h => by cases h)]
  simp only [Sem.run_bind, Sem.run_pure, Result.andThen, binOp, Op.equal, Op.maxDepth, run_equalIn_bool' w 9999 4 a b Try.underlying4, ofRun]

theorem eq31 (c d : Line) (w : World) : (Op.equalIn 10000 31 (.agg c.cells) (.agg d.cells)).run Try.prog w = .ok (decide (c = d)) w := by
  have u3 := Try.underlying3
  have u4 := Try.underlying4
  have hS : Try.prog.underlying 31 = some (.struct (Try.prog.fieldsOf 31)) := by kernel_rfl
  have hp : Try.prog.stoodInHeld 31 = false := by kernel_rfl
  rw [show (10000 : Nat) = 9999 + 1 from rfl, run_equalIn_agg w 9999 31 _ _ hS hp]
  simp only [Program.fieldsOf, Try.underlying31]
  obtain ⟨s, p, o, f, b⟩ := c
  obtain ⟨s', p', o', f', b'⟩ := d
  simp only [Line.cells]
  go_simp
  by_cases h1 : s = s' <;> by_cases h2 : p = p' <;> by_cases h3 : o = o' <;> by_cases h4 : f = f' <;> cases b <;> cases b' <;> simp [h1, h2, h3, h4]
theorem line_fit (op : BinOp) (c d : Line) (ho : op = .eql ∨ op = .neq) : binFit Try.prog op 31 (.agg c.cells) (.agg d.cells) = true := by
  have he : eqTy Try.prog 5 31 = true := by kernel_rfl
  have hg : ∀ c : Line, groundD 4 (.agg c.cells) = true := fun c => by simp [groundD, Line.cells]
  rcases ho with rfl | rfl <;> simp [binFit, he, eqFit, hg]
theorem line_eq {o1 o2 : Operand} {c d : Line} {w : World} : binS Try.prog .eql 31 o1 o2 (.agg c.cells) (.agg d.cells) w = .ret (.bool (decide (c = d)), w) := by
  have hm : Try.prog.eqGuardType Try.prog.depth 31 = false := by kernel_rfl
  unfold binS
  simp only [line_fit .eql c d (.inl rfl), if_true]
  simp only [Sem.run_bind, run_eqGuard_agg w _ _ _ _ _ _ hm, Result.andThen, run_eql_struct, eq31, ofRun]
theorem line_ne {o1 o2 : Operand} {c d : Line} {w : World} : binS Try.prog .neq 31 o1 o2 (.agg c.cells) (.agg d.cells) w = .ret (.bool (!decide (c = d)), w) := by
  have hm : Try.prog.eqGuardType Try.prog.depth 31 = false := by kernel_rfl
  unfold binS
  simp only [line_fit .neq c d (.inr rfl), if_true]
  simp only [Sem.run_bind, run_eqGuard_agg w _ _ _ _ _ _ hm, Result.andThen, run_neq_struct, eq31, ofRun]

theorem run43 {K : Kont} {fuel : Nat} {w : World} (size : Int) :
    wpGFn Try.prog K fuel 43 g43 #[i64 size] w fun v w' => ((size < 1 ∨ 64 < size) ∧ v = .tuple #[.pointer none, i64 2] ∧ w' = w) ∨
      ((1 ≤ size ∧ size ≤ 64) ∧ v = .tuple #[ptr w.heap.size, i64 0] ∧ Buf w' 89 w.heap.size size [] ∧ Keeps w w' (fun _ => False) ∧ ∀ j, foot w' w.heap.size j → j = w.heap.size) := by
  rw [gfn_start]
  by_cases h1 : size < 1
  · simp [g43, h1]
  · by_cases h2 : 64 < size
    · simp [g43, h1, h2]
    · simp [g43, h1, h2, fillS, Instr.fill]
      refine ⟨by omega, ⟨.slice none 0 0, by simp, .inl ⟨rfl, rfl⟩, fun j h => by cases h⟩, Keeps.push _ _ _, fun j hj => ?_⟩
      rcases hj with rfl | ⟨s, v, e, fz, hc, hv⟩
      · rfl
      · simp at hc
        obtain ⟨⟨_, rfl⟩, _⟩ := hc
        cases hv

/-- Rows are the same. -/
theorem run18 {K : Kont} {fuel : Nat} (hf : 2000 ≤ fuel) {w : World} {x y : Value} {ls ms : List Line} (hx : Lns w x ls) (hy : Lns w y ms) (hl : ls.length ≤ 1000) :
    wpGFn Try.prog K fuel 18 g18 #[x, y] w fun v w' => v = .bool (decide (ls = ms)) ∧ w' = w := by
  rw [gfn_start]
  by_cases hlen : ls.length = ms.length
  · have hlen' : (ls.length : Int) = (ms.length : Int) := by omega
    simp [g18, hx.len, hy.len, hlen']
    refine loop_go (fun i ρ w' => ∃ (q : Nat), i = ls.length - q ∧ q ≤ ls.length ∧ ρ 0 = x ∧ ρ 1 = y ∧ ρ 5 = i64 q ∧ w' = w ∧ ls.take q = ms.take q) ?_ (i := ls.length) ?_ (by simp; omega)
    · rintro i ρ w' ⟨q, rfl, hq, h0, h1, h5, rfl, htk⟩
      have w1 : IntKind.i64.wrap ((q : Int) + 1) = (q : Int) + 1 := by rw [IntKind.wrap_i64]; omega
      by_cases hql : q < ls.length
      · have hqm : q < ms.length := by omega
        obtain ⟨lb, o, cap, c, hve, hc, hsz, hext⟩ := hx.line hql
        obtain ⟨lb2, o2, cap2, c2, hve2, hc2, hsz2, hext2⟩ := hy.line hqm
        by_cases he : ls[q] = ms[q]
        · simp [h0, h1, h5, hve, hve2, hc, hc2, hsz, hsz2, hext, hext2, hql, hqm, line_ne, he, w1]
          refine ⟨ls.length - (q + 1), by omega, q + 1, rfl, hql, by omega, ?_⟩
          rw [List.take_succ_eq_append_getElem hql, List.take_succ_eq_append_getElem hqm, htk, he]
        · have hne : ls ≠ ms := fun e => he (by subst e; rfl)
          simp [h0, h1, h5, hve, hve2, hc, hc2, hsz, hsz2, hext, hext2, hql, hqm, line_ne, he, hne]
      · have hqe : q = ls.length := by omega
        subst hqe
        rw [List.take_length, hlen, List.take_length] at htk
        simp [h0, h5, hx.len, htk]
    · exact ⟨0, rfl, Nat.zero_le _, by simp, by simp, by simp, rfl, by simp⟩
  · have hlen' : ¬ (ls.length : Int) = (ms.length : Int) := by omega
    have hne : ls ≠ ms := fun e => hlen (by rw [e])
    simp [g18, hx.len, hy.len, hlen', hne]

/-- All lines, copied. -/
theorem run19 {K : Kont} {fuel : Nat} {w : World} {b : Nat} {size : Int} {ls : List Line} (hb : Buf w 89 b size ls) (hl : ls.length ≤ 1000) :
    wpGFn Try.prog K fuel 19 g19 #[ptr b] w fun v w' => Lns w' v ls ∧ Keeps w w' (fun _ => False) ∧ ∀ j, blockOf v = some j → w.heap.size ≤ j := by
  rw [gfn_start]
  obtain ⟨v, hv, hlns, hne⟩ := id hb
  have hp1 : Keeps w (World.push w (.cells #[] 31)) (fun _ => False) := Keeps.push _ _ _
  have e2 : ¬ b = w.heap.size := Nat.ne_of_lt (cells_lt hv)
  have hempty : Lns (World.push w (.cells #[] 31)) (.slice (some ⟨w.heap.size, 0, none⟩) 0 0) [] := .inr ⟨w.heap.size, 0, 0, #[], rfl, by simp, Nat.zero_le _, .inl ⟨rfl, rfl⟩⟩
  simp [g19, nil25, hv, row_none, e2]
  refine app hempty (hlns.keep hp1 (fun _ _ h => h)).src (by simp; omega) (fun v4 w4 hl4 hk4 hnil hnn => ?_)
  rw [List.nil_append] at hl4
  simp
  refine ⟨hl4, hp1.trans hk4 (fun _ _ h => h) (fun j hj hb => by simp [blockOf] at hb; omega), fun j hj => ?_⟩
  by_cases hm : ls = []
  · rw [(hnil hm).1] at hj; simp [blockOf] at hj; omega
  · rw [hnn hm] at hj; simp at hj; omega
end Go.Proofs.Ytplcocifndpplaa
