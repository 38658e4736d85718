/-
  The fast evaluator: comparing; one operation that calls nothing.
-/
import Derived.Test.YteljibbnpheekaaGreatFc
namespace Go.Ideal
open Go
def idB : Beta := fun b => some ⟨b, 0, 0, 0, 0⟩
def idFit : Value → Bool
  | .pointer none => true
  | .pointer (some ⟨_, _, none⟩) => true
  | .map _ => true
  | .slice none l c => l == 0 && c == 0
  | .slice (some ⟨_, _, none⟩) l c => Nat.ble (Nat.succ c) OPEN && Nat.ble l c
  | v => selfD 4 v
theorem idVR {v : Value} (h : idFit v = true) : VR idB v v := by
  unfold idFit at h
  split at h
  · exact .nilPtr
  · rename_i b o
    exact .ptr (bi := ⟨b, 0, 0, 0, 0⟩) rfl
  · rename_i m
    cases m with
    | none => exact .nilMap
    | some b => exact .map (bi := ⟨b, 0, 0, 0, 0⟩) rfl
  · simp only [Bool.and_eq_true, beq_iff_eq] at h
    obtain ⟨rfl, rfl⟩ := h
    exact .nilSlice
  · rename_i b o l c
    simp only [Bool.and_eq_true] at h
    exact .slice (bi := ⟨b, 0, 0, 0, 0⟩) rfl (.inl ⟨Nat.le_of_ble_eq_true h.1, rfl, Nat.le_of_ble_eq_true h.2, .inl rfl⟩)
  · exact selfVR idB 4 _ h
theorem ofRun_ret {P : Program} {s : Sem Value} {w w0 : World} {v : Value} (h : ofRun (s.run P w) = .ret (v, w0)) : s.run P w = .ok v w0 := by
  cases hr : s.run P w with
  | ok u σ =>
    rw [hr] at h
    simp only [ofRun, T.ret.injEq, Prod.mk.injEq] at h
    rw [h.1, h.2]
  | halt a b => rw [hr] at h; cases h
theorem bin_other (P : Program) (op : BinOp) (t : TypeId) (o1 o2 : Operand) (x y : Value) (hx : idFit x = true) (hy : idFit y = true) (hn : ∀ k a j b, ¬ (x = .int k a ∧ y = .int j b)) (w : World) (b : Bool) (w0 : World)
    (h : binS P op t o1 o2 x y default = .ret (.bool b, w0)) : binS P op t o1 o2 x y w = .ret (.bool b, w) := by
  have key : ∀ w, binS P op t o1 o2 x y w = if binFit P op t x y then ofRun ((do eqGuard op t o1 o2 x y; binOp op t x y : Sem Value).run P w) else .bad := fun w => by
    unfold binS
    split
    · rename_i k a j b
      exact absurd ⟨rfl, rfl⟩ (hn k a j b)
    · rfl
  rw [key] at h ⊢
  by_cases hb : binFit P op t x y = true
  · rw [if_pos hb] at h ⊢
    have h1 := ofRun_ret h
    obtain ⟨_, v', h2, h3⟩ := rsim_binOp (I := fun _ _ _ => True) (P := P) o1 o2 (idVR hx) (idVR hy) hb idB default w (fun _ _ h => h) trivial _ _ h1
    cases h3
    rw [h2]; rfl
  · rw [if_neg hb] at h; cases h
section
variable {fw : FW} {w : World}
noncomputable def binF (P : Program) (op : BinOp) (t : TypeId) (o1 o2 : Operand) (x y : Value) (w : FW) : T (Value × FW) :=
  match x, y with
  | .int k a, .int j b => pureF (binS P op t o1 o2 (.int k a) (.int j b)) w
  | x, y => match idFit x, idFit y, binS P op t o1 o2 x y default with
    | true, true, .ret (.bool b, _) => .ret (.bool b, w)
    | _, _, _ => .bad
theorem bin_tr (hs : SimW fw w) (P : Program) (op : BinOp) (t : TypeId) (o1 o2 : Operand) (x y : Value) : TR (binF P op t o1 o2 x y fw) (binS P op t o1 o2 x y w) := by
  unfold binF
  split
  · rename_i k a j b
    exact pure_tr hs _ (bin_pure P op t o1 o2 k j a b w)
  · rename_i hn
    split
    · rename_i b w0 hx hy hr
      rw [bin_other P op t o1 o2 x y hx hy (fun k a j b h => hn k a j b h.1 h.2) w b w0 hr]
      exact .ret hs
    · exact .bad _
noncomputable def fone (P : Program) (ρ : Regs) (w : FW) : SOp → T (Value × FW)
  | .move x => .ret (ρ x, w)
  | .box e x => .ret (.pointer (some ⟨w.n, 0, none⟩), w.cells (ρ x).cells.toList e)
  | .zero e z => .ret (.pointer (some ⟨w.n, 0, none⟩), w.cells z.toList e)
  | .build ps z parts => pureF (fillS ps z (partsOf ρ parts)) w
  | .row e size len z parts => rowF e size len z (partsOf ρ parts) w
  | .load n a => loadF n (ρ a) w
  | .store n a x => storeF n (ρ a) (ρ x) w
  | .nonnil x => match ρ x with
    | .pointer (some a) => .ret (.pointer (some a), w)
    | .iface t v => .ret (.iface t v, w)
    | _ => .bad
  | .bin op t x y => binF P op t x y (ρ x) (ρ y) w
  | .un op x => match op, ρ x with
    | .not, .bool b => .ret (.bool !b, w)
    | .neg, .int k n => .ret (.int k (k.wrap (0 - n)), w)
    | _, _ => .bad
  | .faddr off x => pureF (faddrS off (ρ x)) w
  | .part n off x => pureF (partS n off (ρ x)) w
  | .iaddr size x ix => pureF (iaddrS size (ρ x) (ρ ix)) w
  | .extract x i => pureF (extractS (ρ x) i) w
  | .len x => pureF (lenS (ρ x)) w
  | .lenMap x => lenMapF (ρ x) w
  | .slice e size x lo hi mx => sliceF e size (ρ x) (lo.map ρ) (hi.map ρ) (mx.map ρ) w
  | .append e size bytes s x => appendF e size bytes (ρ s) (ρ x) w
  | .lookup k z x ix ok => lookupF k z (ρ x) (ρ ix) ok w
  | .update k m ix v => updateF k (ρ m) (ρ ix) (ρ v) w
  | .delete k m ix => deleteF k (ρ m) (ρ ix) w
  | .makeMap => .ret (.map (some w.n), w.push (.other (.map #[] 0)))
  | .pick c a b => match ρ c with
    | .bool x => .ret (if x then ρ a else ρ b, w)
    | _ => .bad
  | .conv k x => match ρ x with
    | .int _ n => .ret (.int k (k.wrap n), w)
    | _ => .bad
  | .imax x y => match ρ x, ρ y with
    | .int k a, .int j b => if k = j then .ret (.int k (if b > a then b else a), w) else .bad
    | _, _ => .bad
  | .fn f cap => .ret (.func (.func f) #[] (cap.map ρ), w)
  | .call _ _ => .bad
  | .callv _ _ => .bad
  | .raw _ _ => .bad
theorem fone_tr (hs : SimW fw w) (P : Program) (K : Kont) (ρ : Regs) (op : SOp) : TR (fone P ρ fw op) (sone P K ρ w op) := by
  cases op with
  | move x => exact .ret hs
  | box e x => simp only [fone, sone]; rw [hs.size]; exact .ret (hs.cellsN _ e)
  | zero e z => simp only [fone, sone]; rw [hs.size]; exact .ret (hs.cellsN _ e)
  | build ps z parts => exact pure_tr hs _ (fill_pure ps z _ w)
  | row e size len z parts => exact row_tr hs e size len z _
  | load n a => exact load_tr hs n _
  | store n a x => exact store_tr hs n _ _
  | nonnil x =>
    simp only [fone, sone]
    split
    · rename_i h; simp only [h]; exact .ret hs
    · rename_i h; simp only [h]; exact .ret hs
    · exact .bad _
  | bin op t x y => exact bin_tr hs P op t x y _ _
  | un op x =>
    simp only [fone, sone]
    split
    · rename_i h; simp only [h]; exact .ret hs
    · rename_i h; simp only [h]; exact .ret hs
    · exact .bad _
  | faddr off x => exact pure_tr hs _ (faddr_pure off _ w)
  | part n off x => exact pure_tr hs _ (part_pure n off _ w)
  | iaddr size x ix => exact pure_tr hs _ (iaddr_pure size _ _ w)
  | extract x i => exact pure_tr hs _ (extract_pure _ i w)
  | len x => exact pure_tr hs _ (len_pure _ w)
  | lenMap x => exact lenMap_tr hs _
  | slice e size x lo hi mx => exact slice_tr hs e size _ _ _ _
  | append e size bytes s x => exact append_tr hs e size bytes _ _
  | lookup k z x ix ok => exact lookup_tr hs k z _ _ ok
  | update k m ix v => exact update_tr hs k _ _ _
  | delete k m ix => exact delete_tr hs k _ _
  | makeMap => simp only [fone, sone]; rw [hs.size]; exact .ret (hs.push ⟨rfl, fun _ _ _ h => by cases h⟩)
  | pick c a b =>
    simp only [fone, sone]
    split
    · rename_i h; simp only [h]; exact .ret hs
    · exact .bad _
  | conv k x =>
    simp only [fone, sone]
    split
    · rename_i h; simp only [h]; exact .ret hs
    · exact .bad _
  | imax x y =>
    simp only [fone, sone]
    split
    · rename_i h1 h2
      simp only [h1, h2]
      split
      · exact .ret hs
      · exact .bad _
    · exact .bad _
  | fn f cap => exact .ret hs
  | call f args => exact .bad _
  | callv x args => exact .bad _
  | raw op t => exact .bad _
end
end Go.Ideal
