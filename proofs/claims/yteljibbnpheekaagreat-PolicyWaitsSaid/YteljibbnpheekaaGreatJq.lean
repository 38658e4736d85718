/-
  Arguments that are more than one slice of plain data.
-/
import Derived.Test.YteljibbnpheekaaGreatJp
namespace Go.Ideal
open Go Go.RowKit Go.ChangeShapes

/-- A block to be read, or one that nothing reads. -/
structure Seen (P : Program) (W : World) (o : Obj) (bi : BI) : Prop where
  obj : live o = true → ∃ o', W.heap[bi.r]? = some o' ∧ ∀ β, OR β bi o o'
  dd : live o = false → o = dead
  esz : ∀ c e fz, o = .cells c e fz → live o = true → ∀ i, P.info? e = some i → i.size = bi.es
  nw : wr o = false

theorem Seen.hole (P : Program) (W : World) (bi : BI) : Seen P W dead bi where
  obj := fun h => by simp [live, dead] at h
  dd := fun _ => rfl
  esz := fun _ _ _ _ h => by simp [live, dead] at h
  nw := rfl

theorem Seen.row {P : Program} {W : World} {r off n es : Nat} {c : Array Value} {te : TypeId} {fz : Nat × Nat} (hb : W.heap[r]? = some (.cells c te fz)) (hn : 0 < n) (hle : off + n ≤ c.size)
    (hp : ∀ (i : Nat) (v : Value), i < n → c[off + i]? = some v → selfD 4 v = true) (hi : ∀ i, P.info? te = some i → i.size = es) :
    Seen P W (.cells (c.extract off (off + n)) te (0, n)) ⟨r, off, n, es, c.size⟩ := by
  refine ⟨fun _ => ⟨_, hb, fun β => ?_⟩, fun hl => by simp [live] at hl, fun c' e' fz' h _ i hinf => ?_, ?_⟩
  · have hsz : (c.extract off (off + n)).size = n := by rw [Array.size_extract]; omega
    refine OR.cells (fz := (0, n)) (bi := ⟨r, off, n, es, c.size⟩) hsz rfl hle (fun i v hv => ?_) (.inr ⟨rfl, hn, Nat.le_of_eq hsz⟩)
    rw [Array.getElem?_extract] at hv
    split at hv
    · rename_i hlt
      have hin : i < n := by omega
      exact ⟨v, hv, selfVR _ 4 v (hp i v hin hv)⟩
    · cases hv
  · simp only [Obj.cells.injEq] at h
    obtain ⟨_, rfl, _⟩ := h
    exact hi i hinf
  · simp only [wr]
    rw [beq_eq_false_iff_ne]
    intro h
    simp only [Prod.mk.injEq] at h
    omega

/-- The world of such blocks. -/
def manyWorld (l : List (Obj × BI)) : World := { (default : World) with heap := (l.map (·.1)).toArray }
def manyBeta (l : List (Obj × BI)) : Beta := fun b => (l[b]?).map (·.2)
theorem R.many {P : Program} {W : World} (l : List (Obj × BI)) (h : ∀ x ∈ l, Seen P W x.1 x.2) : R P W.heap.size (Base.of W) (manyBeta l) (manyWorld l) W := by
  have hat : ∀ {b : Nat} {o : Obj}, (manyWorld l).heap[b]? = some o → ∃ bi, l[b]? = some (o, bi) := fun {b o} h => by
    simp only [manyWorld, List.getElem?_toArray, List.getElem?_map, Option.map_eq_some_iff] at h
    obtain ⟨⟨o', bi⟩, h1, rfl⟩ := h
    exact ⟨bi, h1⟩
  have hbt : ∀ {b : Nat} {o : Obj} {bi : BI}, (manyWorld l).heap[b]? = some o → manyBeta l b = some bi → Seen P W o bi := fun {b o bi} h hbi => by
    obtain ⟨bi', h1⟩ := hat h
    simp only [manyBeta, h1, Option.map_some, Option.some.injEq] at hbi
    subst hbi
    exact ‹∀ x ∈ l, Seen P W x.1 x.2› _ (List.mem_of_getElem? h1)
  have hnw : ∀ {b : Nat} {o : Obj}, (manyWorld l).heap[b]? = some o → wr o = false := fun {b o} h => by
    obtain ⟨bi', h1⟩ := hat h
    exact (‹∀ x ∈ l, Seen P W x.1 x.2› _ (List.mem_of_getElem? h1)).nw
  refine { below := Below.refl _ _, held := (fun k hk => hk.elim), free := (fun _ _ _ _ _ _ h => h), size := Nat.le_refl _, dom := fun b bi h => ?_, cov := fun b h => ?_, obj := fun b o bi h hbi hl => ?_, dd := fun b o h hl => ?_, esz := fun b c' e' fz' bi h hl hbi i hinf => (hbt h hbi).esz _ _ _ rfl hl i hinf, new := fun b o bi h _ hw => ?_, inj := fun b1 b2 o1 o2 bi1 bi2 h1 _ _ _ hw => ?_ }
  · simp only [manyBeta, Option.map_eq_some_iff] at h
    obtain ⟨x, h1, _⟩ := h
    have := (List.getElem?_eq_some_iff.1 h1).1
    simpa [manyWorld] using this
  · have hlt : b < l.length := by simpa [manyWorld] using h
    exact ⟨l[b].2, by simp [manyBeta, hlt]⟩
  · obtain ⟨o', h1, h2⟩ := (hbt h hbi).obj hl
    exact ⟨o', h1, h2 _⟩
  · obtain ⟨bi', h1⟩ := hat h
    exact (‹∀ x ∈ l, Seen P W x.1 x.2› _ (List.mem_of_getElem? h1)).dd hl
  · rw [hnw h] at hw; cases hw
  · rw [hnw h1] at hw; cases hw

/-- A slice argument of plain elements, among others; how long it is, and how it stands. -/
theorem slice_seen2 {H : Type} {enc : TypeId × Value → H} {P : Program} {W : World} {t te : TypeId} {es fuel : Nat} {v : Value} {x : DataW H × List MemPlace} (ht : P.underlying t = some (.slice te)) (hes : P.cellsOf te = es) (hpos : 0 < es)
    (hel : ∀ n cs y, DataW.trod enc P W 0 (fun _ => true) true n te cs = some y → cs.length = es ∧ ∀ v ∈ cs, selfD 4 v = true)
    (hok : Cell.okWide P W .any W.heap.size t v ∨ ∃ base, Cell.okWide P W .any base t v) (h : DataW.trod enc P W 0 (fun _ => true) true fuel t [v] = some x) :
    ∃ (o : Obj) (bi : BI) (F : Nat → Value) (xs : List (Array Value)), Seen P W o bi ∧ (∀ (β : Beta) (k : Nat), β k = some bi → VR β (F k) v) ∧ (∀ (σ : World) (k : Nat), σ.heap[k]? = some o → Elems σ (F k) es xs) ∧ (∀ c ∈ xs, ∃ n y, DataW.trod enc P W 0 (fun _ => true) true n te c.toList = some y) ∧
    (xs = [] ∨ ∃ elems rest pl, x = (.slice elems rest, pl) ∧ elems.length = xs.length) ∧ (((∀ k, F k = .slice none 0 0) ∧ xs = []) ∨ (∀ k, F k = .slice (some ⟨k, 0, none⟩) xs.length (OPEN + 1)) ∧ ∃ c e fz, o = .cells c e fz) := by
  rcases DataW.trod_slice ht h with ⟨hc, _⟩ | ⟨a, len, cap, elems, rest, n, _, hc, hxx, _, hle, hmax, hlen, hels, hrest, _⟩
  · simp only [List.cons.injEq, and_true] at hc
    subst hc
    exact ⟨dead, ⟨0, 0, 0, 0, 0⟩, fun _ => .slice none 0 0, [], Seen.hole P W _, fun _ _ _ => .nilSlice, fun _ _ _ => ⟨none, 0, rfl, fun i h => absurd h (Nat.not_lt_zero _)⟩, (fun c hc => by cases hc), .inl rfl, .inl ⟨fun _ => rfl, rfl⟩⟩
  · simp only [List.cons.injEq, and_true] at hc
    subst hc
    rw [hes] at hels hrest
    have hspot : a.spot = none := by
      have : ∃ base, Cell.okWide P W .any base t (.slice (some a) len cap) := by rcases hok with h | h; exact ⟨_, h⟩; exact h
      obtain ⟨base, hk⟩ := this
      unfold Cell.okWide at hk
      rw [ht] at hk
      simp only [Cell.ok, ht] at hk
      exact hk.2.2.2.1
    obtain ⟨r, off, spot⟩ := a
    simp only at hspot
    subst hspot
    obtain ⟨hrl, hrest⟩ := hrest rfl
    -- each element's cells
    have hall : ∀ i, i < cap → ∃ cs y, W.cells? 0 ⟨r, off + i * es, none⟩ es = some cs ∧ DataW.trod enc P W 0 (fun _ => true) true n te cs = some y := by
      intro i hi
      by_cases hil : i < len
      · have h1 := hels i hil
        obtain ⟨y, hy⟩ : ∃ y, elems[i]? = some y := ⟨elems[i], List.getElem?_eq_getElem (by omega)⟩
        rw [hy] at h1
        obtain ⟨cs, h2, h3⟩ := Option.bind_eq_some_iff.1 h1
        rw [Addr.add_off] at h2
        exact ⟨cs, y, h2, h3⟩
      · have h1 := hrest (i - len) (by omega)
        obtain ⟨y, hy⟩ : ∃ y, rest[i - len]? = some y := ⟨rest[i - len], List.getElem?_eq_getElem (by omega)⟩
        rw [hy, show len + (i - len) = i by omega] at h1
        obtain ⟨cs, h2, h3⟩ := Option.bind_eq_some_iff.1 h1
        rw [Addr.add_off] at h2
        exact ⟨cs, y, h2, h3⟩
    have hcell : ∀ i, i < cap → ∀ cs, W.cells? 0 ⟨r, off + i * es, none⟩ es = some cs → cs.length = es ∧ ∀ j, j < es → W.cell? ⟨r, off + i * es + j, none⟩ = cs[j]? := by
      intro i hi cs h1
      obtain ⟨_, h3, h4⟩ := World.cells?_some h1
      exact ⟨h3, fun j hj => by rw [← h4 j hj, Addr.add_off]⟩
    by_cases hz : len = 0
    · subst hz
      refine ⟨dead, ⟨r, off, 0, es, off + cap * es⟩, fun k => .slice (some ⟨k, 0, none⟩) 0 (OPEN + 1), [], Seen.hole P W _, fun β k hk => .slice (bi := ⟨r, off, 0, es, off + cap * es⟩) hk (.inr (.inr ⟨Nat.lt_succ_self _, (Nat.zero_add off).symm, Nat.zero_le _⟩)), fun _ _ _ => ⟨_, _, rfl, fun i h => absurd h (Nat.not_lt_zero _)⟩, (fun c hc => by cases hc), .inl rfl, .inr ⟨fun _ => rfl, _, _, _, rfl⟩⟩
    · obtain ⟨cs0, y0, h01, _⟩ := hall 0 (by omega)
      obtain ⟨hl0, hc0⟩ := hcell 0 (by omega) cs0 h01
      have h00 := hc0 0 hpos
      rw [List.getElem?_eq_getElem (by omega)] at h00
      obtain ⟨c, e, fz, hb, _⟩ := cell?_eq_some.1 h00
      have hat : ∀ k, W.cell? ⟨r, k, none⟩ = c[k]? := fun k => by simp [World.cell?, hb]
      have hext : ∀ i, i < cap → ∃ cs y, c.extract (off + i * es) (off + i * es + es) = cs.toArray ∧ off + i * es + es ≤ c.size ∧ DataW.trod enc P W 0 (fun _ => true) true n te cs = some y := by
        intro i hi
        obtain ⟨cs, y, h1, h2⟩ := hall i hi
        obtain ⟨h3, h4⟩ := hcell i hi cs h1
        have hsz : off + i * es + es ≤ c.size := by
          have h5 := h4 (es - 1) (by omega)
          rw [hat, List.getElem?_eq_getElem (by omega)] at h5
          have := (Array.getElem?_eq_some_iff.1 h5).1
          omega
        refine ⟨cs, y, ?_, hsz, h2⟩
        apply Array.ext_getElem?
        intro j
        rw [Array.getElem?_extract]
        by_cases hj : j < es
        · rw [if_pos (by omega), ← hat, h4 j hj]; simp
        · rw [if_neg (by omega)]; simp [h3]; omega
      have htot : off + cap * es ≤ c.size := by
        obtain ⟨_, _, _, h5, _⟩ := hext (cap - 1) (by omega)
        have : cap * es = (cap - 1) * es + es := by rw [← Nat.succ_mul]; congr 1; omega
        omega
      have hlt : len * es ≤ cap * es := Nat.mul_le_mul_right _ hle
      have hplain : ∀ (i : Nat) (v : Value), i < len * es → c[off + i]? = some v → selfD 4 v = true := by
        intro i v hi hv
        have hq : i / es < len := Nat.div_lt_of_lt_mul (by rw [Nat.mul_comm]; exact hi)
        obtain ⟨cs, y, h1, _, h3⟩ := hext (i / es) (by omega)
        obtain ⟨h4, h5⟩ := hel n cs y h3
        have hm : i / es * es + i % es = i := by rw [Nat.mul_comm]; exact Nat.div_add_mod i es
        have hmod := Nat.mod_lt i hpos
        have hg : (c.extract (off + i / es * es) (off + i / es * es + es))[i % es]? = some v := by
          rw [Array.getElem?_extract, if_pos (by omega), show off + i / es * es + i % es = off + i by omega]; exact hv
        rw [h1] at hg
        exact h5 v (by have := Array.mem_of_getElem? hg; simpa using this)
      have hR := Seen.row (n := len * es) (es := ((P.info? e).map (·.size)).getD 0) hb (Nat.mul_pos (by omega) hpos) (by omega) hplain (fun i hi => by rw [hi]; rfl)
      refine ⟨_, _, fun k => .slice (some ⟨k, 0, none⟩) len (OPEN + 1), (List.range len).map fun i => c.extract (off + i * es) (off + i * es + es), hR, fun β k hk => .slice (bi := ⟨r, off, len * es, _, c.size⟩) hk (.inr (.inr ⟨Nat.lt_succ_self _, (Nat.zero_add off).symm, hle⟩)), fun σ k hk => ⟨some ⟨k, 0, none⟩, OPEN + 1, by simp, fun i hi => ?_⟩, fun c' hc' => ?_, .inr ⟨_, _, _, hxx, by simp [hlen]⟩, .inr ⟨fun _ => by simp, _, _, _, rfl⟩⟩
      · have hil : i < len := by simpa using hi
        have h6 : (i + 1) * es ≤ len * es := Nat.mul_le_mul_right _ hil
        rw [Nat.succ_mul] at h6
        refine ⟨k, 0, _, e, (0, len * es), rfl, by rw [cellsOf?, hk], by simp; omega, ?_⟩
        simp only [List.getElem_map, List.getElem_range]
        apply Array.ext_getElem?
        intro j
        rw [Array.getElem?_extract, Array.getElem?_extract, Array.getElem?_extract, Array.size_extract]
        by_cases hj : j < es
        · rw [if_pos (by omega), if_pos (by omega), if_pos (by omega)]
          congr 1; omega
        · rw [if_neg (by omega), if_neg (by omega)]
      · obtain ⟨i, hi, rfl⟩ := List.mem_map.1 hc'
        have hil := List.mem_range.1 hi
        obtain ⟨cs, y, h1, _, h3⟩ := hext i (by omega)
        exact ⟨n, y, by rw [h1]; exact h3⟩
/-- A slice argument of plain elements, among others. -/
theorem slice_seen {H : Type} {enc : TypeId × Value → H} {P : Program} {W : World} {t te : TypeId} {es fuel : Nat} {v : Value} {x : DataW H × List MemPlace} (ht : P.underlying t = some (.slice te)) (hes : P.cellsOf te = es) (hpos : 0 < es)
    (hel : ∀ n cs y, DataW.trod enc P W 0 (fun _ => true) true n te cs = some y → cs.length = es ∧ ∀ v ∈ cs, selfD 4 v = true)
    (hok : Cell.okWide P W .any W.heap.size t v ∨ ∃ base, Cell.okWide P W .any base t v) (h : DataW.trod enc P W 0 (fun _ => true) true fuel t [v] = some x) :
    ∃ (o : Obj) (bi : BI) (F : Nat → Value) (xs : List (Array Value)), Seen P W o bi ∧ (∀ (β : Beta) (k : Nat), β k = some bi → VR β (F k) v) ∧ (∀ (σ : World) (k : Nat), σ.heap[k]? = some o → Elems σ (F k) es xs) ∧ ∀ c ∈ xs, ∃ n y, DataW.trod enc P W 0 (fun _ => true) true n te c.toList = some y := 
  by
  obtain ⟨o, bi, F, xs, h1, h2, h3, h4, _⟩ := slice_seen2 ht hes hpos hel hok h
  exact ⟨o, bi, F, xs, h1, h2, h3, h4⟩
end Go.Ideal
