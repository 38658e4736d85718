/-
  From an ideal run to a row of the kind 'for every input the law returns true; each argument reads behind the call as it read before'.
-/
import Derived.ProofKit
import Derived.Carry
import Derived.Test.YtplcocifndpplaaIx
namespace Go.Ideal
open Go Go.RowKit Go.ChangeShapes

theorem trodAll_below {H : Type} {enc : TypeId × Value → H} {P : Program} (hl : laidOutB P = true) {W W' : World} (hb : Below W.heap.size W W') {sp : Nat → Bool} :
    ∀ {ts : List TypeId} {vs : List Value} {ds : List (DataW H)} {ps : List MemPlace}, (∀ t ∈ ts, P.readableRec t = true ∧ t < P.types.size) → DataW.TrodAll enc P W 0 (fun _ => true) true ts vs ds ps →
      (∀ p ∈ ps, p.block < W.heap.size) → (∀ p ∈ ps, sp p.block = true) → DataW.TrodAll enc P W' 0 sp true ts vs ds ps
  | [], [], [], _, _, h, _, _ => h
  | t :: ts, v :: vs, d :: ds, ps, hr, ⟨p, q, h1, h2, e⟩, hlt, hs => by
    subst e
    exact ⟨p, q, WideElems.Trod_stays hl (hr t (by simp)).1 (hr t (by simp)).2 h1 (fun x hx => hb.same (hlt x (by simp [hx]))) (fun x hx => hs x (by simp [hx])),
      trodAll_below hl hb (fun u hu => hr u (by simp [hu])) h2 (fun x hx => hlt x (by simp [hx])) (fun x hx => hs x (by simp [hx])), rfl⟩
  | [], [], _ :: _, _, _, h, _, _ => h.elim
  | [], _ :: _, _, _, _, h, _, _ => by cases h
  | _ :: _, [], _, _, _, h, _, _ => by cases h
  | _ :: _, _ :: _, [], _, _, h, _, _ => h.elim

/-- True came, and all lies as it lay. -/
theorem post_true {H : Type} {enc : TypeId × Value → H} {P : Program} {f : Func} {s : ChangeSpec} {apart handsOn again : Bool} {W W' : World} {args : Array Value} {ds gs : List (DataW H)} {before : List MemPlace} {tb : TypeId}
    (hl : laidOutB P = true) (hpar : ∀ t ∈ f.params.toList, P.readableRec t = true ∧ t < P.types.size) (hres : f.resultTypes = #[tb]) (htb : P.underlying tb = some .bool) (hvars : s.vars = [])
    (hs : s.fn H ds = { results := [.lit (.bool true)], args := ds, vars := [] })
    (hW : DataW.Whole enc P f.params.toList s.vars apart W args.toList ds gs before) (hb : Below W.heap.size W W') : s.post enc P f apart true handsOn again W args (.bool true) W' := by
  have hlt := hW.lt
  obtain ⟨p, q, h1, h2, rfl, hz, hn⟩ := hW
  have hq : q = [] ∧ gs = [] := by
    rw [hvars] at h2
    cases gs with
    | nil => exact ⟨h2, rfl⟩
    | cons g gs => exact h2.elim
  obtain ⟨rfl, rfl⟩ := hq
  simp only [List.append_nil] at hz hn hlt
  have hs' : s.fn H (ds ++ []) = { results := [.lit (.bool true)], args := ds, vars := [] } := by rw [List.append_nil]; exact hs
  have hres' : ∀ (b : Nat) (sp : Nat → Bool) (hd : Bool), DataW.TrodAll enc P W' b sp hd f.resultTypes.toList ((Value.bool true).resultList f.resultTypes.size) (s.fn H (ds ++ [])).results [] := by
    intro b sp hd
    rw [hs', hres]
    exact trodAll_mk1 (shut_bool htb true)
  refine ⟨ds, [], p ++ [], [], p, [], ⟨p, [], h1, h2, rfl, by simpa using hz, by simpa using hn⟩, hres' _ _ _, ?_, ?_, hb.frame _, fun _ => ⟨?_, (s.fn H (ds ++ [])).results ++ ds, [], ([] ++ p) ++ [], ⟨[] ++ p, [], ?_, ?_, rfl, ?_, ?_⟩, ?_⟩⟩
  · rw [hs']
    exact trodAll_below hl hb hpar h1 hlt (fun x hx => by simpa using hlt x hx)
  · rw [hs', hvars]
    exact rfl
  · exact ok_one hres rfl (by simp [Value.okWide, htb, Cell.okWide, Cell.ok])
  · exact trodAll_append (trodAll_below hl hb hpar h1 hlt (fun _ _ => rfl)) (hres' _ _ _)
  · rw [hvars]; exact rfl
  · intro b off hp
    have hp : MemPlace.cell b off ∈ p := by simpa using hp
    rw [hb.frozen (p := ⟨b, off, none⟩) (hlt _ hp)]
    exact hz b off hp
  · intro ha
    simpa using hn ha
  · intro x hx _
    simpa using hx

/-! ### Worlds without blocks -/
theorem R.start (P : Program) (W : World) (σ : World) (hσ : σ.heap = #[]) : R P W.heap.size (Base.of W) (fun _ => none) σ W where
  below := Below.refl _ _
  held := fun k hk => hk.elim
  free := fun _ _ _ _ _ _ h => h
  size := Nat.le_refl _
  dom := fun b bi h => by cases h
  cov := fun b h => by simp [hσ] at h
  obj := fun b o bi h => by simp [hσ] at h
  dd := fun b o h => by simp [hσ] at h
  esz := fun b c e fz bi h => by simp [hσ] at h
  new := fun b o bi h => by simp [hσ] at h
  inj := fun b1 b2 o1 o2 bi1 bi2 h => by simp [hσ] at h

/-- Worlds of tokens: so many numbers. -/
def tokens (n : Nat) : World := { (default : World) with heap := Array.replicate n dead }

def tokBI (k : Int) : BI := ⟨0, k.toNat, (-k).toNat, 0, 0⟩

theorem tokBI_val (k : Int) : tokVal (tokBI k) = .int .i64 k := by
  simp only [tokVal, tokBI, Value.int.injEq, true_and]
  omega

def tokBeta (l : List Int) : Beta := fun b => (l[b]?).map tokBI

theorem R.tokens (P : Program) (W : World) (l : List Int) : R P W.heap.size (Base.of W) (tokBeta l) (Ideal.tokens l.length) W := by
  have hdead : ∀ (b : Nat) (o : Obj), (Ideal.tokens l.length).heap[b]? = some o → o = dead := fun b o h => by
    simp only [Ideal.tokens, Array.getElem?_replicate] at h
    split at h
    · simpa using h.symm
    · cases h
  refine { below := Below.refl _ _, held := (fun k hk => hk.elim), free := (fun _ _ _ _ _ _ h => h), size := Nat.le_refl _, dom := fun b bi h => ?_, cov := fun b h => ?_, obj := fun b o bi h _ hl => ?_, dd := fun b o h _ => hdead b o h, esz := fun b c e fz bi h hl => ?_, new := fun b o bi h _ hw => ?_, inj := fun b1 b2 o1 o2 bi1 bi2 h _ _ _ hw => ?_ }
  · simp only [tokBeta, Option.map_eq_some_iff] at h
    obtain ⟨k, hk, _⟩ := h
    simpa [Ideal.tokens] using (List.getElem?_eq_some_iff.1 hk).1
  · have hb : b < l.length := by simpa [Ideal.tokens] using h
    exact ⟨tokBI l[b], by simp [tokBeta, hb]⟩
  · rw [hdead b o h] at hl; cases hl
  · rw [hdead b _ h] at hl; cases hl
  · rw [hdead b o h] at hw; cases hw
  · rw [hdead b1 o1 h] at hw; cases hw

theorem tok_vr {l : List Int} {b : Nat} {k : Int} (h : l[b]? = some k) : VR (tokBeta l) (.chan (some b)) (.int .i64 k) :=
  .tok (bi := tokBI k) (by simp [tokBeta, h]) (tokBI_val k).symm

def isTrue : Value × World → Bool
  | (.bool b, _) => b
  | _ => false

theorem isTrue_spec {x : Value × World} (h : isTrue x = true) : x.1 = .bool true := by
  obtain ⟨v, w⟩ := x
  cases v <;> simp_all [isTrue]

/-- What the row asks, out of an ideal run. -/
theorem calls_true {H : Type} {enc : TypeId × Value → H} {P : Program} {f : FuncId} {fn : Func} {s : ChangeSpec} {apart handsOn again : Bool} {W : World} {args argsI : Array Value} {ds gs : List (DataW H)} {before : List MemPlace} {tb : TypeId}
    (hm : P.follows .mixedOrders = true) (hl : laidOutB P = true) (hpar : ∀ t ∈ fn.params.toList, P.readableRec t = true ∧ t < P.types.size) (hres : fn.resultTypes = #[tb]) (htb : P.underlying tb = some .bool) (hvars : s.vars = [])
    (hs : s.fn H ds = { results := [.lit (.bool true)], args := ds, vars := [] })
    (hW : DataW.Whole enc P fn.params.toList s.vars apart W args.toList ds gs before) {β : Beta} {σ : World} (hR : R P W.heap.size (Base.of W) β σ W) (ha : AR β argsI args) {m : Nat}
    (hQ : ((run P m).enter f argsI σ).all fun x => x.1 = .bool true) : Calls P f args W fun e W' => ∃ v, e = .returned v ∧ s.post enc P fn apart true handsOn again W args v W' := by
  refine (calls_of_run hm hR ha hQ).mono fun e W' he => ?_
  cases e with
  | returned v' =>
    obtain ⟨β2, v, σ', _, hR', hv, hq⟩ := he
    simp only at hq
    subst hq
    cases hv
    exact ⟨_, rfl, post_true hl hpar hres htb hvars hs hW hR'.below⟩
  | panicked c => exact he.elim
  | outgrown => exact he.elim

/-! ### Arguments without addresses -/
def plainCell (P : Program) (t : TypeId) : Bool := match P.underlying t with
  | some .bool | some (.int _) | some .string => true
  | _ => false

theorem plainCell_self {P : Program} {w : World} {r : Reach} {base : Nat} {t : TypeId} {v : Value} (hp : plainCell P t = true) (h : Cell.okWide P w r base t v) :
    (P.underlying t = some .bool ∧ ∃ b, v = .bool b) ∨ (∃ k, P.underlying t = some (.int k) ∧ ∃ n, v = .int k n ∧ k.has n) ∨ (P.underlying t = some .string ∧ ∃ s, v = .string s) := by
  unfold plainCell at hp
  unfold Cell.okWide Cell.ok at h
  cases ht : P.underlying t with
  | none => rw [ht] at hp; cases hp
  | some d =>
    rw [ht] at hp h
    cases d with
    | bool => cases v <;> simp at h; exact .inl ⟨rfl, _, rfl⟩
    | int k => cases v <;> simp at h; exact .inr (.inl ⟨k, rfl, _, by rw [h.1], h.2⟩)
    | string => cases v <;> simp at h; exact .inr (.inr ⟨rfl, _, rfl⟩)
    | _ => cases hp

theorem int_cell {P : Program} {w : World} {r : Reach} {base : Nat} {t u : TypeId} {v : Value} (ht : P.underlying t = some (.int .i64)) (he : some t = some u) (h : Cell.okWide P w r base u v) : ∃ a, v = .int .i64 a := by
  simp only [Option.some.injEq] at he
  subst he
  rcases plainCell_self (by unfold plainCell; rw [ht]) h with ⟨h1, _⟩ | ⟨k, h1, n, h2, _⟩ | ⟨h1, _⟩
  · rw [ht] at h1; cases h1
  · rw [ht] at h1
    simp only [Option.some.injEq, TypeDesc.int.injEq] at h1
    subst h1
    exact ⟨n, h2⟩
  · rw [ht] at h1; cases h1

theorem bool_cell {P : Program} {w : World} {r : Reach} {base : Nat} {t u : TypeId} {v : Value} (ht : P.underlying t = some .bool) (he : some t = some u) (h : Cell.okWide P w r base u v) : ∃ a, v = .bool a := by
  simp only [Option.some.injEq] at he
  subst he
  rcases plainCell_self (by unfold plainCell; rw [ht]) h with ⟨_, h2⟩ | ⟨k, h1, _⟩ | ⟨h1, _⟩
  · exact h2
  · rw [ht] at h1; cases h1
  · rw [ht] at h1; cases h1

theorem array9 {α : Type} {cs : Array α} (h : cs.size = 9) : ∃ c0 c1 c2 c3 c4 c5 c6 c7 c8, cs = #[c0, c1, c2, c3, c4, c5, c6, c7, c8] := by
  obtain ⟨l⟩ := cs
  match l, h with
  | [c0, c1, c2, c3, c4, c5, c6, c7, c8], _ => exact ⟨c0, c1, c2, c3, c4, c5, c6, c7, c8, rfl⟩

theorem array10 {α : Type} {cs : Array α} (h : cs.size = 10) : ∃ c0 c1 c2 c3 c4 c5 c6 c7 c8 c9, cs = #[c0, c1, c2, c3, c4, c5, c6, c7, c8, c9] := by
  obtain ⟨l⟩ := cs
  match l, h with
  | [c0, c1, c2, c3, c4, c5, c6, c7, c8, c9], _ => exact ⟨c0, c1, c2, c3, c4, c5, c6, c7, c8, c9, rfl⟩

theorem args_one {H : Type} {enc : TypeId × Value → H} {P : Program} {w : World} {base : Nat} {sp : Nat → Bool} {hd : Bool} {t : TypeId} {args : Array Value} {ds : List (DataW H)} {ps : List MemPlace}
    (h : DataW.TrodAll enc P w base sp hd [t] args.toList ds ps) : ∃ v d, args = #[v] ∧ ds = [d] := by
  obtain ⟨l⟩ := args
  match l, ds, h with
  | [], _, h => exact h.elim
  | [v], [], h => exact h.elim
  | [v], [d], h => exact ⟨v, d, rfl, rfl⟩
  | [v], _ :: _ :: _, ⟨_, _, _, h, _⟩ => exact h.elim
  | v :: w :: l, [], h => exact h.elim
  | v :: w :: l, [d], ⟨_, _, _, h, _⟩ => exact h.elim
  | v :: w :: l, _ :: _ :: _, ⟨_, _, _, h, _⟩ => exact h.elim

end Go.Ideal
