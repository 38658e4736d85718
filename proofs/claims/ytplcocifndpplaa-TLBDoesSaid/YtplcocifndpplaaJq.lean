/-
  From an ideal run with laid answers to a row; arguments that are slices of plain data.
-/
import Derived.Test.YtplcocifndpplaaJa
import Derived.Test.YtplcocifndpplaaJp
namespace Go.Ideal
open Go Go.RowKit Go.ChangeShapes

/-- What the row asks, out of an ideal run with answers laid. -/
theorem calls_trueA {H : Type} {enc : TypeId × Value → H} {P : Program} {sp : Answers} {f : FuncId} {fn : Func} {s : ChangeSpec} {apart handsOn again : Bool} {W : World} {args argsI : Array Value} {ds gs : List (DataW H)} {before : List MemPlace} {tb : TypeId}
    (hm : P.follows .mixedOrders = true) (hsp : LaidA P sp) (hl : laidOutB P = true) (hpar : ∀ t ∈ fn.params.toList, P.readableRec t = true ∧ t < P.types.size) (hres : fn.resultTypes = #[tb]) (htb : P.underlying tb = some .bool) (hvars : s.vars = [])
    (hs : s.fn H ds = { results := [.lit (.bool true)], args := ds, vars := [] })
    (hW : DataW.Whole enc P fn.params.toList s.vars apart W args.toList ds gs before) {β : Beta} {σ : World} (hR : R P W.heap.size (Base.of W) β σ W) (ha : AR β argsI args) {m : Nat}
    (hQ : ((runA P sp m).enter f argsI σ).all fun x => x.1 = .bool true) : Calls P f args W fun e W' => ∃ v, e = .returned v ∧ s.post enc P fn apart true handsOn again W args v W' := by
  refine (calls_of_runA hm hsp hR ha hQ).mono fun e W' he => ?_
  cases e with
  | returned v' =>
    obtain ⟨β2, v, σ', _, hR', hv, hq⟩ := he
    simp only at hq
    subst hq
    cases hv
    exact ⟨_, rfl, post_true hl hpar hres htb hvars hs hW hR'.below⟩
  | panicked c => exact he.elim
  | outgrown => exact he.elim

def oneBeta (bi : BI) : Beta := fun b => if b = 0 then some bi else none
def oneWorld (o : Obj) : World := { (default : World) with heap := #[o] }

/-- A row of the world that the run began in, to be read. -/
theorem R.row {P : Program} {W : World} {r off n es : Nat} {c : Array Value} {te : TypeId} {fz : Nat × Nat} (hb : W.heap[r]? = some (.cells c te fz)) (hn : 0 < n) (hle : off + n ≤ c.size)
    (hp : ∀ (i : Nat) (v : Value), i < n → c[off + i]? = some v → selfD 4 v = true) (hi : ∀ i, P.info? te = some i → i.size = es) :
    R P W.heap.size (Base.of W) (oneBeta ⟨r, off, n, es, c.size⟩) (oneWorld (.cells (c.extract off (off + n)) te (0, n))) W := by
  have hat : ∀ (b : Nat) (o : Obj), (oneWorld (.cells (c.extract off (off + n)) te (0, n))).heap[b]? = some o → b = 0 ∧ o = .cells (c.extract off (off + n)) te (0, n) := fun b o h => by
    simp only [oneWorld] at h
    cases b with
    | zero => simp at h; exact ⟨rfl, h.symm⟩
    | succ b => simp at h
  have hnw : wr (.cells (c.extract off (off + n)) te (0, n)) = false := by
    simp only [wr]
    rw [beq_eq_false_iff_ne]
    intro h
    simp only [Prod.mk.injEq] at h
    omega
  refine { below := Below.refl _ _, held := (fun k hk => hk.elim), free := (fun _ _ _ _ _ _ h => h), size := Nat.le_refl _, dom := fun b bi h => ?_, cov := fun b h => ?_, obj := fun b o bi h hbi _ => ?_, dd := fun b o h hl => ?_, esz := fun b c' e' fz' bi h _ hbi i hinf => ?_, new := fun b o bi h _ hw => ?_, inj := fun b1 b2 o1 o2 bi1 bi2 h1 _ _ _ hw => ?_ }
  · simp only [oneBeta] at h
    split at h
    · rename_i h0; subst h0; simp [oneWorld]
    · cases h
  · have : b = 0 := by simp [oneWorld] at h; omega
    subst this
    exact ⟨_, rfl⟩
  · obtain ⟨rfl, rfl⟩ := hat b o h
    simp only [oneBeta, if_true, Option.some.injEq] at hbi
    subst hbi
    have hsz : (c.extract off (off + n)).size = n := by rw [Array.size_extract]; omega
    refine ⟨_, hb, OR.cells (fz := (0, n)) (bi := ⟨r, off, n, es, c.size⟩) hsz rfl hle (fun i v hv => ?_) (.inr ⟨rfl, hn, Nat.le_of_eq hsz⟩)⟩
    rw [Array.getElem?_extract] at hv
    split at hv
    · rename_i hlt
      have hin : i < n := by omega
      exact ⟨v, hv, selfVR _ 4 v (hp i v hin hv)⟩
    · cases hv
  · obtain ⟨rfl, rfl⟩ := hat b o h
    simp [live] at hl
  · obtain ⟨rfl, h2⟩ := hat b _ h
    simp only [oneBeta, if_true, Option.some.injEq] at hbi
    subst hbi
    simp only [Obj.cells.injEq] at h2
    obtain ⟨_, rfl, _⟩ := h2
    exact hi i hinf
  · obtain ⟨rfl, rfl⟩ := hat b o h
    rw [hnw] at hw; cases hw
  · obtain ⟨rfl, rfl⟩ := hat b1 o1 h1
    rw [hnw] at hw; cases hw

/-- A block that nothing reads. -/
theorem R.hole (P : Program) (W : World) (bi : BI) : R P W.heap.size (Base.of W) (oneBeta bi) (oneWorld dead) W := by
  have hat : ∀ (b : Nat) (o : Obj), (oneWorld dead).heap[b]? = some o → b = 0 ∧ o = dead := fun b o h => by
    simp only [oneWorld] at h
    cases b with
    | zero => simp at h; exact ⟨rfl, h.symm⟩
    | succ b => simp at h
  refine { below := Below.refl _ _, held := (fun k hk => hk.elim), free := (fun _ _ _ _ _ _ h => h), size := Nat.le_refl _, dom := fun b bi h => ?_, cov := fun b h => ?_, obj := fun b o bi h _ hl => ?_, dd := fun b o h _ => (hat b o h).2, esz := fun b c e fz bi h hl => ?_, new := fun b o bi h _ hw => ?_, inj := fun b1 b2 o1 o2 bi1 bi2 h _ _ _ hw => ?_ }
  · simp only [oneBeta] at h
    split at h
    · rename_i h0; subst h0; simp [oneWorld]
    · cases h
  · have : b = 0 := by simp [oneWorld] at h; omega
    subst this
    exact ⟨_, rfl⟩
  · rw [(hat b o h).2] at hl; cases hl
  · rw [(hat b _ h).2] at hl; cases hl
  · rw [(hat b o h).2] at hw; cases hw
  · rw [(hat b1 o1 h).2] at hw; cases hw

/-- A slice as it lies: so many elements of so many cells. -/
def Elems (w : World) (v : Value) (es : Nat) (xs : List (Array Value)) : Prop := ∃ vb vc, v = .slice vb xs.length vc ∧
  ∀ (i : Nat) (h : i < xs.length), ∃ b o c e fz, vb = some ⟨b, o, none⟩ ∧ cellsOf? w b = some (c, e, fz) ∧ o + i * es + es ≤ c.size ∧ c.extract (o + i * es) (o + i * es + es) = xs[i]

/-- A slice argument of plain elements. -/
theorem slice_start {H : Type} {enc : TypeId × Value → H} {P : Program} {W : World} {t te : TypeId} {es fuel : Nat} {v : Value} {x : DataW H × List MemPlace} (ht : P.underlying t = some (.slice te)) (hes : P.cellsOf te = es) (hpos : 0 < es)
    (hel : ∀ n cs y, DataW.trod enc P W 0 (fun _ => true) true n te cs = some y → cs.length = es ∧ ∀ v ∈ cs, selfD 4 v = true)
    (hok : Cell.okWide P W .any W.heap.size t v ∨ ∃ base, Cell.okWide P W .any base t v) (h : DataW.trod enc P W 0 (fun _ => true) true fuel t [v] = some x) :
    ∃ β σ vI xs, R P W.heap.size (Base.of W) β σ W ∧ VR β vI v ∧ Elems σ vI es xs ∧ ∀ c ∈ xs, ∃ n y, DataW.trod enc P W 0 (fun _ => true) true n te c.toList = some y := by
  rcases DataW.trod_slice ht h with ⟨hc, _⟩ | ⟨a, len, cap, elems, rest, n, _, hc, _, _, hle, hmax, hlen, hels, hrest, _⟩
  · simp only [List.cons.injEq, and_true] at hc
    subst hc
    exact ⟨fun _ => none, { (default : World) with heap := #[] }, .slice none 0 0, [], R.start P W _ rfl, .nilSlice, ⟨none, 0, rfl, fun i h => absurd h (Nat.not_lt_zero _)⟩, fun c hc => by cases hc⟩
  · simp only [List.cons.injEq, and_true] at hc
    subst hc
    rw [hes] at hels hrest
    have hspot : a.spot = none := by
      have : ∃ base, Cell.okWide P W .any base t (.slice (some a) len cap) := by rcases hok with h | h; exact ⟨_, h⟩; exact h
      obtain ⟨base, hk⟩ := this
      unfold Cell.okWide at hk
      rw [ht] at hk
      simp only [Cell.ok, ht] at hk
      exact hk.2.2.2.1
    obtain ⟨r, off, spot⟩ := a
    simp only at hspot
    subst hspot
    obtain ⟨hrl, hrest⟩ := hrest rfl
    -- each element's cells
    have hall : ∀ i, i < cap → ∃ cs y, W.cells? 0 ⟨r, off + i * es, none⟩ es = some cs ∧ DataW.trod enc P W 0 (fun _ => true) true n te cs = some y := by
      intro i hi
      by_cases hil : i < len
      · have h1 := hels i hil
        obtain ⟨y, hy⟩ : ∃ y, elems[i]? = some y := ⟨elems[i], List.getElem?_eq_getElem (by omega)⟩
        rw [hy] at h1
        obtain ⟨cs, h2, h3⟩ := Option.bind_eq_some_iff.1 h1
        rw [Addr.add_off] at h2
        exact ⟨cs, y, h2, h3⟩
      · have h1 := hrest (i - len) (by omega)
        obtain ⟨y, hy⟩ : ∃ y, rest[i - len]? = some y := ⟨rest[i - len], List.getElem?_eq_getElem (by omega)⟩
        rw [hy, show len + (i - len) = i by omega] at h1
        obtain ⟨cs, h2, h3⟩ := Option.bind_eq_some_iff.1 h1
        rw [Addr.add_off] at h2
        exact ⟨cs, y, h2, h3⟩
    have hcell : ∀ i, i < cap → ∀ cs, W.cells? 0 ⟨r, off + i * es, none⟩ es = some cs → cs.length = es ∧ ∀ j, j < es → W.cell? ⟨r, off + i * es + j, none⟩ = cs[j]? := by
      intro i hi cs h1
      obtain ⟨_, h3, h4⟩ := World.cells?_some h1
      exact ⟨h3, fun j hj => by rw [← h4 j hj, Addr.add_off]⟩
    by_cases hz : len = 0
    · subst hz
      refine ⟨oneBeta ⟨r, off, 0, es, off + cap * es⟩, oneWorld dead, .slice (some ⟨0, 0, none⟩) 0 (OPEN + 1), [], R.hole P W _, .slice (bi := ⟨r, off, 0, es, off + cap * es⟩) rfl (.inr (.inr ⟨Nat.lt_succ_self _, (Nat.zero_add off).symm, Nat.zero_le _⟩)), ⟨_, _, rfl, fun i h => absurd h (Nat.not_lt_zero _)⟩, fun c hc => by cases hc⟩
    · obtain ⟨cs0, y0, h01, _⟩ := hall 0 (by omega)
      obtain ⟨hl0, hc0⟩ := hcell 0 (by omega) cs0 h01
      have h00 := hc0 0 hpos
      rw [List.getElem?_eq_getElem (by omega)] at h00
      obtain ⟨c, e, fz, hb, _⟩ := cell?_eq_some.1 h00
      have hat : ∀ k, W.cell? ⟨r, k, none⟩ = c[k]? := fun k => by simp [World.cell?, hb]
      have hext : ∀ i, i < cap → ∃ cs y, c.extract (off + i * es) (off + i * es + es) = cs.toArray ∧ off + i * es + es ≤ c.size ∧ DataW.trod enc P W 0 (fun _ => true) true n te cs = some y := by
        intro i hi
        obtain ⟨cs, y, h1, h2⟩ := hall i hi
        obtain ⟨h3, h4⟩ := hcell i hi cs h1
        have hsz : off + i * es + es ≤ c.size := by
          have h5 := h4 (es - 1) (by omega)
          rw [hat, List.getElem?_eq_getElem (by omega)] at h5
          have := (Array.getElem?_eq_some_iff.1 h5).1
          omega
        refine ⟨cs, y, ?_, hsz, h2⟩
        apply Array.ext_getElem?
        intro j
        rw [Array.getElem?_extract]
        by_cases hj : j < es
        · rw [if_pos (by omega), ← hat, h4 j hj]; simp
        · rw [if_neg (by omega)]; simp [h3]; omega
      have htot : off + cap * es ≤ c.size := by
        obtain ⟨_, _, _, h5, _⟩ := hext (cap - 1) (by omega)
        have : cap * es = (cap - 1) * es + es := by rw [← Nat.succ_mul]; congr 1; omega
        omega
      have hlt : len * es ≤ cap * es := Nat.mul_le_mul_right _ hle
      have hplain : ∀ (i : Nat) (v : Value), i < len * es → c[off + i]? = some v → selfD 4 v = true := by
        intro i v hi hv
        have hq : i / es < len := Nat.div_lt_of_lt_mul (by rw [Nat.mul_comm]; exact hi)
        obtain ⟨cs, y, h1, _, h3⟩ := hext (i / es) (by omega)
        obtain ⟨h4, h5⟩ := hel n cs y h3
        have hm : i / es * es + i % es = i := by rw [Nat.mul_comm]; exact Nat.div_add_mod i es
        have hmod := Nat.mod_lt i hpos
        have hg : (c.extract (off + i / es * es) (off + i / es * es + es))[i % es]? = some v := by
          rw [Array.getElem?_extract, if_pos (by omega), show off + i / es * es + i % es = off + i by omega]; exact hv
        rw [h1] at hg
        exact h5 v (by have := Array.mem_of_getElem? hg; simpa using this)
      have hR := R.row (n := len * es) (es := ((P.info? e).map (·.size)).getD 0) hb (Nat.mul_pos (by omega) hpos) (by omega) hplain (fun i hi => by rw [hi]; rfl)
      refine ⟨_, _, .slice (some ⟨0, 0, none⟩) len (OPEN + 1), (List.range len).map fun i => c.extract (off + i * es) (off + i * es + es), hR, .slice (bi := ⟨r, off, len * es, _, c.size⟩) rfl (.inr (.inr ⟨Nat.lt_succ_self _, (Nat.zero_add off).symm, hle⟩)), ⟨some ⟨0, 0, none⟩, OPEN + 1, by simp, fun i hi => ?_⟩, fun c' hc' => ?_⟩
      · have hil : i < len := by simpa using hi
        have h6 : (i + 1) * es ≤ len * es := Nat.mul_le_mul_right _ hil
        rw [Nat.succ_mul] at h6
        refine ⟨0, 0, _, e, (0, len * es), rfl, rfl, by simp; omega, ?_⟩
        simp only [List.getElem_map, List.getElem_range]
        apply Array.ext_getElem?
        intro j
        rw [Array.getElem?_extract, Array.getElem?_extract, Array.getElem?_extract, Array.size_extract]
        by_cases hj : j < es
        · rw [if_pos (by omega), if_pos (by omega), if_pos (by omega)]
          congr 1; omega
        · rw [if_neg (by omega), if_neg (by omega)]
      · obtain ⟨i, hi, rfl⟩ := List.mem_map.1 hc'
        have hil := List.mem_range.1 hi
        obtain ⟨cs, y, h1, _, h3⟩ := hext i (by omega)
        exact ⟨n, y, by rw [h1]; exact h3⟩
end Go.Ideal
