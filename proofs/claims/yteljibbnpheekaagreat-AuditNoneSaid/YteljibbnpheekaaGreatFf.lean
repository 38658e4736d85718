/-
  The fast evaluator: maps gone over.
-/
import Derived.Test.YteljibbnpheekaaGreatFd
import Derived.Test.YteljibbnpheekaaGreatFl
import Derived.Test.YteljibbnpheekaaGreatJt
namespace Go.Ideal
open Go
theorem pval_ret (K : Kont) (t : T (Value × World)) : pval K (t.bind fun r => .ret (Next.value r.1, r.2)) = t := by
  induction t with
  | ret a => rfl
  | bad => rfl
  | pick n k ih =>
    show T.pick n _ = _
    congr 1
    funext i
    exact ih i
theorem raw_next (P : Program) (K : Kont) (ρ : Regs) (w : World) (x : Operand) (ty : TypeId) (hc : constFit x = true) : sone P K ρ w (.raw (.next x false) ty) = inext P (ρ x) false ty w := by
  have hops : ((Op.next x false).operands.all constFit) = true := by simp [Op.operands, hc]
  simp only [sone, pstep, istep, hops, if_true]
  exact pval_ret K _
theorem raw_range (P : Program) (K : Kont) (ρ : Regs) (w : World) (t kt et : TypeId) (x : Operand) (ty : TypeId) (hc : constFit x = true) (hu : P.underlying t = some (.map kt et)) {r n : Nat} {es : Array MapEntry} (hx : ρ x = .map (some r)) (hm : w.heap[r]? = some (.map es n)) :
    sone P K ρ w (.raw (.range t x) ty) = .ret (.pointer (some ⟨w.heap.size, 0, none⟩), World.push w (.mapIter (some r) n #[] n)) := by
  have hops : ((Op.range t x).operands.all constFit) = true := by simp [Op.operands, hc]
  have hrun : (execOp ρ { dst := none, op := .range t x, type := ty, pos := "", after := #[], guard := none }).run P w = .ok (.value (.pointer (some ⟨w.heap.size, 0, none⟩))) (World.push w (.mapIter (some r) n #[] n)) := by
    simp [execOp, Instr.range, Sem.run_bind, run_underlying' hu, Result.andThen, hx, getObj, Sem.run, hm, World.push]
  simp only [sone, pstep, istep, hops, if_true, hrun, ofRun, pval, T.bind]
theorem raw_entry (P : Program) (K : Kont) (ρ : Regs) (w : World) (x : Operand) (ty : TypeId) (hc : constFit x = true) {it r since n b : Nat} {seen : Array Nat} {es : Array MapEntry} {e : MapEntry} (hx : ρ x = .pointer (some ⟨it, 0, none⟩))
    (h6 : w.heap[it]? = some (.mapIter (some r) since seen n)) (hm : w.heap[r]? = some (.map es n)) (hsb : seen.back? = some b) (hfind : es.find? (fun x => x.born == b) = some e) : sone P K ρ w (.raw (.entry x) ty) = .ret (.tuple #[e.key, e.val], w) := by
  have hops : ((Op.entry x).operands.all constFit) = true := by simp [Op.operands, hc]
  have hrun : (execOp ρ { dst := none, op := .entry x, type := ty, pos := "", after := #[], guard := none }).run P w = .ok (.value (.tuple #[e.key, e.val])) w := by
    simp [execOp, Instr.entry, Sem.run_bind, Result.andThen, hx, getObj, Sem.run, h6, hsb, hm, hfind]
  simp only [sone, pstep, istep, hops, if_true, hrun, ofRun, pval, T.bind]
theorem raw_make (P : Program) (K : Kont) (ρ : Regs) (w : World) {t e : TypeId} {n : Nat} (ty : TypeId) {i : TypeInfo} {z : Value} {l c : Operand} (hl : ρ l = .int .i64 n) (hcp : ρ c = .int .i64 n) (hcl : constFit l = true) (hcc : constFit c = true)
    (hu : P.underlying t = some (.slice e)) (hi : P.info? e = some i) (hz : i.zero = some z) (hs : selfD 4 z = true) (h1 : i.size = 1) (hzc : z.cells = #[z]) (hn : 0 < n) (hlt : n < 1000000) (hby : i.bytes ≤ 1000) :
    sone P K ρ w (.raw (.makeSlice t l c) ty) = .ret (.slice (some ⟨w.heap.size, 0, none⟩) n n, World.push w (.cells (Array.replicate n z) e)) := by
  have hwr : IntKind.i64.wrap (n : Int) = n := by rw [IntKind.wrap_i64]; omega
  have hc : ((Op.makeSlice t l c).operands.all constFit) = true := by simp [Op.operands, hcl, hcc]
  have hel : elemOk P t = true := by
    unfold elemOk zeroOk
    simp only [hu, hi, hz, hs]
  have hcap : capFit (.int .i64 n) = true := by
    simp only [capFit, hwr, decide_eq_true_eq]; omega
  have hti : ∀ w : World, (typeInfo e).run P w = .ok i w := fun w => by simp [typeInfo, program, Sem.run, hi, Result.andThen]
  have har : ∀ (m : Nat) (w : World), (askRoom m).run P w = .ok () w := fun m w => by
    unfold askRoom
    split <;> rfl
  have hmul : (i.bytes : Int) * (n : Int) ≤ 1000 * 1000000 := Int.mul_le_mul (by omega) (by omega) (by omega) (by omega)
  have hbig : ¬ ((i.bytes : Int) * (n : Int) > 2 ^ 48) := by
    have : (2 : Int) ^ 48 = 281474976710656 := by decide
    omega
  have hneg : ¬ (n : Int) < 0 := by omega
  have hn0 : ¬ n = 0 := by omega
  have hrow : (Array.range n).map (fun k => #[z][k % (#[z] : Array Value).size]!) = Array.replicate n z := by
    apply Array.ext (by simp)
    intro k g1 g2
    simp [Nat.mod_one]
  have hrun : (execOp ρ { dst := none, op := .makeSlice t l c, type := ty, pos := "", after := #[], guard := none }).run P w =
      .ok (.value (.slice (some ⟨w.heap.size, 0, none⟩) n n)) (World.push w (.cells (Array.replicate n z) e)) := by
    simp only [execOp, Instr.makeSlice, Sem.run_bind, run_underlying' hu, Result.andThen, hl, hcp, asInt, asIntOf, Sem.run_pure, hti, hwr]
    simp only [hneg, hbig, decide_false, Bool.or_false, Bool.false_eq_true, gt_iff_lt, Int.lt_irrefl, if_false, Int.toNat_natCast, h1, Nat.mul_one, hn0, Sem.run_bind, Result.andThen, har, run_sizeOf' hi, run_zero hi hz, hzc, Sem.run_pure, hrow, newRow]
    simp [World.push]
  simp only [sone, pstep, istep, hc, if_true, hcp, hel, hcap, Bool.and_self, hrun, ofRun, pval, T.bind]
noncomputable def Tr.fill {α : Type} (z : α) (d : Nat) : Tr α := Nat.rec (motive := fun _ => Tr α) .lf (fun _ h => .nd h (some z) h) d
theorem Tr.get_fill {α : Type} (z : α) : ∀ d i, i < 2 ^ d → (Tr.fill z (d + 1)).get i = some z
  | 0, i, h => by
    have : i = 0 := by simpa using h
    subst this; rfl
  | d + 1, i, h => by
    have e : Tr.fill z (d + 1 + 1) = .nd (Tr.fill z (d + 1)) (some z) (Tr.fill z (d + 1)) := rfl
    have h2 : i / 2 < 2 ^ d := by rw [Nat.pow_succ] at h; omega
    rw [e, Tr.get_nd, Tr.get_fill z d (i / 2) h2]
    split
    · rfl
    · split <;> rfl
theorem CR.fill (n : Nat) (z : Value) (hn : n ≤ 1048576) : CR n (Tr.fill z 21) (Array.replicate n z) :=
  ⟨by simp, fun i hi => by rw [Tr.get_fill z 20 i (by omega)]; simp [hi]⟩
section
variable {fw : FW} {w : World}
theorem SimW.other (h : SimW fw w) {b : Nat} {o : Obj} (hb : fw.h.get b = some (.other o)) : w.heap[b]? = some o := by
  obtain ⟨o', h1, rfl, _⟩ := h.get hb
  exact h1
noncomputable def nextF (iter : Value) (w : FW) : T (Value × FW) :=
  match iter with
  | .pointer (some ⟨r, 0, none⟩) =>
    match w.h.get r with
    | some (.other (.mapIter (some m) since seen last)) =>
      match w.h.get m with
      | some (.other (.map es clock)) =>
        if !seen.isEmpty && !es.isEmpty && es.all (·.born ≥ last) then .bad else
        let left := es.filter fun e => !seen.contains e.born
        let old := left.filter (·.born < since)
        let new := left.filter (·.born ≥ since)
        let candidates := (if old.isEmpty then #[none] else #[]) ++ (old ++ new).map some
        .pick candidates.size fun i =>
          match candidates[i]? with
          | some (some e) => .ret (.tuple #[.bool true, e.key, e.val], w.set r (.other (.mapIter (some m) since (seen.push e.born) clock)))
          | some none => .ret (.tuple #[.bool false], w)
          | none => .bad
      | _ => .bad
    | some (.other (.mapIter none _ _ _)) => .ret (.tuple #[.bool false], w)
    | _ => .bad
  | _ => .bad
theorem next_tr (hs : SimW fw w) (P : Program) (iter : Value) (ty : TypeId) : TR (nextF iter fw) (inext P iter false ty w) := by
  unfold nextF
  split
  · rename_i r
    split
    · rename_i m since seen last hr
      have hr' := hs.other hr
      split
      · rename_i es clock hm
        have hm' := hs.other hm
        simp only [inext, hr', hm']
        split
        · exact .bad _
        · refine .pick fun i hi => ?_
          split
          · rename_i e he
            simp only [he]
            exact .ret (hs.set hr ⟨rfl, fun _ _ _ h => by cases h⟩)
          · rename_i he
            simp only [he]
            exact .ret hs
          · exact .bad _
      · exact .bad _
    · rename_i hr
      simp only [inext, hs.other hr]
      exact .ret hs
    · exact .bad _
  · exact .bad _
noncomputable def rangeF (P : Program) (t : TypeId) (x : Value) (w : FW) : T (Value × FW) :=
  match P.underlying t, x with
  | some (.map _ _), .map (some r) => match w.h.get r with
    | some (.other (.map _ n)) => .ret (.pointer (some ⟨w.n, 0, none⟩), w.push (.other (.mapIter (some r) n #[] n)))
    | _ => .bad
  | _, _ => .bad
noncomputable def entryF (x : Value) (w : FW) : T (Value × FW) :=
  match x with
  | .pointer (some ⟨it, 0, none⟩) =>
    match w.h.get it with
    | some (.other (.mapIter (some r) _ seen stepped)) => match w.h.get r, seen.back? with
      | some (.other (.map es n)), some b => match Nat.beq n stepped, es.find? (fun x => x.born == b) with
        | true, some e => .ret (.tuple #[e.key, e.val], w)
        | _, _ => .bad
      | _, _ => .bad
    | _ => .bad
  | _ => .bad
noncomputable def makeF (P : Program) (t : TypeId) (l c : Value) (w : FW) : T (Value × FW) :=
  match P.underlying t, l, c with
  | some (.slice e), .int .i64 (.ofNat n), .int .i64 (.ofNat m) => match P.info? e with
    | some i => match i.zero, Nat.beq n m, Nat.beq i.size 1, Nat.ble 1 n, Nat.ble n 999999, Nat.ble i.bytes 1000 with
      | some (.int k a), true, true, true, true, true => .ret (.slice (some ⟨w.n, 0, none⟩) n n, w.push (.cells n (Tr.fill (.int k a) 21) e (0, 0)))
      | _, _, _, _, _, _ => .bad
    | none => .bad
  | _, _, _ => .bad
noncomputable def indexF (P : Program) (t : TypeId) (x ix : Value) (w : FW) : T (Value × FW) :=
  match P.underlying t, x, ix with
  | some (.array len e), .agg cs, .int _ (.ofNat i) => match Nat.ble (Nat.succ i) len, P.info? e, aggOf P e with
    | true, some inf, some n => pureF (partS n (Nat.mul i inf.size) (.agg cs)) w
    | _, _, _ => .bad
  | some .string, .string s, .int _ (.ofNat i) => match s.data.toList[i]? with
    | some b => .ret (.int .u8 (.ofNat b.toNat), w)
    | none => .bad
  | _, _, _ => .bad
theorem index_tr (hs : SimW fw w) (P : Program) (K : Kont) (ρ : Regs) (t : TypeId) (x ix : Operand) (ty : TypeId) (hcx : constFit x = true) (hci : constFit ix = true) : TR (indexF P t (ρ x) (ρ ix) fw) (sone P K ρ w (.raw (.index t x ix) ty)) := by
  have hops : ((Op.index t x ix).operands.all constFit) = true := by simp [Op.operands, hcx, hci]
  unfold indexF
  split
  · rename_i len e cs k i hu hx hix
    split
    · rename_i inf n hlt hi ha
      have hlt' : i < len := Nat.le_of_ble_eq_true hlt
      unfold pureF
      split
      · rename_i v w0 hp
        obtain ⟨cs', r, h1, h2, h3⟩ := ok_part (P := P) (w := w) (Q := fun r => r = (v, w)) ha (off := i * inf.size) (x := .agg cs) (by
          have := part_pure n (i * inf.size) (.agg cs) w v w0 hp
          rw [this]; rfl)
        cases h1
        simp only [Prod.mk.injEq, and_true] at h3
        subst h3
        have hrun : (execOp ρ { dst := none, op := .index t x ix, type := ty, pos := "", after := #[], guard := none }).run P w = .ok (.value r) w := by
          simp only [execOp, Instr.index, hx, hix, asIntOf, Sem.run_bind, Sem.run_pure, Result.andThen, run_underlying' hu]
          rw [if_pos ⟨Int.natCast_nonneg _, Int.ofNat_lt.2 hlt'⟩]
          simp only [Sem.run_bind, run_sizeOf' hi, Result.andThen, Int.ofNat_eq_natCast, Int.toNat_natCast, h2]
        have : sone P K ρ w (.raw (.index t x ix) ty) = .ret (r, w) := by
          simp only [sone, pstep, istep, hops, if_true, hrun, ofRun, pval, T.bind]
        rw [this]
        exact .ret hs
      · exact .bad _
    · exact .bad _
  · rename_i s k i hu hx hix
    split
    · rename_i b hb
      have hg : s[i]? = some b := by
        rw [← hb]
        rw [Array.getElem?_toList]
        by_cases h : i < s.data.size
        · rw [getElem?_pos s i h, getElem?_pos s.data i h]; rfl
        · rw [getElem?_neg s i h, getElem?_neg s.data i h]
      have hrun : (execOp ρ { dst := none, op := .index t x ix, type := ty, pos := "", after := #[], guard := none }).run P w = .ok (.value (.int .u8 b.toNat)) w := by
        simp only [execOp, Instr.index, hx, hix, asIntOf, Sem.run_bind, Sem.run_pure, Result.andThen, run_underlying' hu, Int.ofNat_eq_natCast, Int.natCast_nonneg, if_true, Int.toNat_natCast, hg]
      have : sone P K ρ w (.raw (.index t x ix) ty) = .ret (.int .u8 b.toNat, w) := by
        simp only [sone, pstep, istep, hops, if_true, hrun, ofRun, pval, T.bind]
      rw [this]
      exact .ret hs
    · exact .bad _
  · exact .bad _
noncomputable def iarrF (P : Program) (t : TypeId) (x ix : Value) (w : FW) : T (Value × FW) :=
  match P.underlying t, x, ix with
  | some (.array len e), .pointer (some ⟨b, o, none⟩), .int _ (.ofNat i) => match Nat.ble (Nat.succ i) len, P.info? e with
    | true, some inf => .ret (.pointer (some ⟨b, Nat.add o (Nat.mul i inf.size), none⟩), w)
    | _, _ => .bad
  | _, _, _ => .bad
theorem iarr_tr (hs : SimW fw w) (P : Program) (K : Kont) (ρ : Regs) (t : TypeId) (x ix : Operand) (ty : TypeId) (hcx : constFit x = true) (hci : constFit ix = true) : TR (iarrF P t (ρ x) (ρ ix) fw) (sone P K ρ w (.raw (.indexAddr t x ix) ty)) := by
  have hops : ((Op.indexAddr t x ix).operands.all constFit) = true := by simp [Op.operands, hcx, hci]
  unfold iarrF
  split
  · rename_i len e b o k i hu hx hix
    split
    · rename_i inf hlt hi
      have hlt' : i < len := Nat.le_of_ble_eq_true hlt
      have hrun : (execOp ρ { dst := none, op := .indexAddr t x ix, type := ty, pos := "", after := #[], guard := none }).run P w = .ok (.value (.pointer (some ⟨b, o + i * inf.size, none⟩))) w := by
        simp only [execOp, Instr.indexAt, hx, hix, asIntOf, Sem.run_bind, Sem.run_pure, Result.andThen, run_underlying' hu, Instr.sureAddr]
        rw [if_pos ⟨Int.natCast_nonneg _, Int.ofNat_lt.2 hlt'⟩]
        simp only [Sem.run_bind, run_sizeOf' hi, Result.andThen, Sem.run_pure, Int.ofNat_eq_natCast, Int.toNat_natCast, Addr.add_off]
      have : sone P K ρ w (.raw (.indexAddr t x ix) ty) = .ret (.pointer (some ⟨b, o + i * inf.size, none⟩), w) := by
        simp only [sone, pstep, istep, hops, if_true, hrun, ofRun, pval, T.bind]
      rw [this]
      exact .ret hs
    · exact .bad _
  · exact .bad _
noncomputable def funcF (f : FuncId) (first cap : Array Operand) (ρ : Regs) (w : FW) : T (Value × FW) := .ret (.func (.func f) (first.map ρ) (cap.map ρ), w)
theorem func_tr (hs : SimW fw w) (P : Program) (K : Kont) (ρ : Regs) (f : FuncId) (first cap : Array Operand) (ty : TypeId) (hc : ((Op.makeFunc (.func f) first cap).operands.all constFit) = true) : TR (funcF f first cap ρ fw) (sone P K ρ w (.raw (.makeFunc (.func f) first cap) ty)) := by
  have : sone P K ρ w (.raw (.makeFunc (.func f) first cap) ty) = .ret (.func (.func f) (first.map ρ) (cap.map ρ), w) := by
    simp [sone, pstep, istep, hc, execOp, Instr.makeFunc, ofRun, pval]
  rw [this]
  exact .ret hs
noncomputable def ifaceF (P : Program) (t : TypeId) (x : Value) (w : FW) : T (Value × FW) := match plainTy P t with
  | true => .ret (.iface t x, w)
  | false => .bad
theorem iface_tr (hs : SimW fw w) (P : Program) (K : Kont) (ρ : Regs) (t : TypeId) (x : Operand) (ty : TypeId) (hc : constFit x = true) : TR (ifaceF P t (ρ x) fw) (sone P K ρ w (.raw (.makeInterface t x) ty)) := by
  have hops : ((Op.makeInterface t x).operands.all constFit) = true := by simp [Op.operands, hc]
  unfold ifaceF
  split
  · rename_i hp
    unfold plainTy at hp
    cases hu : P.underlying t with
    | none => rw [hu] at hp; cases hp
    | some d =>
      rw [hu] at hp
      have hrun : (execOp ρ { dst := none, op := .makeInterface t x, type := ty, pos := "", after := #[], guard := none }).run P w = .ok (.value (.iface t (ρ x))) w := by
        simp only [execOp, Instr.makeInterface, Sem.run_bind, run_underlying' hu, Result.andThen]
        cases d <;> first | (cases hp; done) | rfl
      have : sone P K ρ w (.raw (.makeInterface t x) ty) = .ret (.iface t (ρ x), w) := by
        simp only [sone, pstep, istep, hops, if_true, hrun, ofRun, pval, T.bind]
      rw [this]
      exact .ret hs
  · exact .bad _
noncomputable def assertF (P : Program) (asserted : TypeId) (ok : Bool) (x : Value) (w : FW) : T (Value × FW) := match x with
  | .iface t v => match Nat.beq t asserted, plainTy P t, ok with
    | true, true, true => .ret (.tuple #[v, .bool true], w)
    | true, true, false => .ret (v, w)
    | _, _, _ => .bad
  | _ => .bad
theorem assert_tr (hs : SimW fw w) (P : Program) (K : Kont) (ρ : Regs) (x : Operand) (xt asserted : TypeId) (ok : Bool) (ty : TypeId) (hc : constFit x = true) : TR (assertF P asserted ok (ρ x) fw) (sone P K ρ w (.raw (.typeAssert x xt asserted ok) ty)) := by
  have hops : ((Op.typeAssert x xt asserted ok).operands.all constFit) = true := by simp [Op.operands, hc]
  unfold assertF
  split
  · rename_i t v hx
    have key : Nat.beq t asserted = true → plainTy P t = true → sone P K ρ w (.raw (.typeAssert x xt asserted ok) ty) = .ret (if ok = true then .tuple #[v, .bool true] else v, w) := by
      intro h1 h2
      have e := Nat.eq_of_beq_eq_true h1
      subst e
      have hp := h2
      unfold plainTy at hp
      cases hu : P.underlying t with
      | none => rw [hu] at hp; cases hp
      | some d =>
        rw [hu] at hp
        have hrun : (execOp ρ { dst := none, op := .typeAssert x xt t ok, type := ty, pos := "", after := #[], guard := none }).run P w = .ok (.value (if ok = true then .tuple #[v, .bool true] else v)) w := by
          simp only [execOp, Instr.typeAssert, hx, Sem.run_bind, run_underlying' hu, Result.andThen]
          cases d <;> first | (cases hp; done) | (simp only [if_true]; rfl)
        simp only [sone, pstep, istep, hops, if_true, hx, beq_self_eq_true, h2, Bool.and_self, hrun, ofRun, pval, T.bind]
    split
    · rename_i h1 h2
      rw [key h1 h2]; exact .ret hs
    · rename_i h1 h2
      rw [key h1 h2]; exact .ret hs
    · exact .bad _
  · exact .bad _
noncomputable def arrBuildF (P : Program) (t : TypeId) (parts : List (Nat × Value)) (w : FW) : T (Value × FW) :=
  match P.underlying t, P.info? t with
  | some (.array _ e), some i => match i.zero, P.info? e with
    | some z, some ie => match selfD 4 z, Instr.fill (fun j => some (j * ie.size, ie.size)) z.cells parts with
      | true, some cs => .ret (.agg cs, w)
      | _, _ => .bad
    | _, _ => .bad
  | _, _ => .bad
theorem arrBuild_tr (hs : SimW fw w) (P : Program) (K : Kont) (ρ : Regs) (t : TypeId) (parts : Array (Nat × Operand)) (ty : TypeId) (hc : ((Op.build t parts).operands.all constFit) = true) : TR (arrBuildF P t (partsOf ρ parts.toList) fw) (sone P K ρ w (.raw (.build t parts) ty)) := by
  unfold arrBuildF
  split
  · rename_i len e i hu hi
    split
    · rename_i z ie hz hie
      split
      · rename_i cs hself hfill
        have hz0 : zeroOk P t = true := by unfold zeroOk; simp only [hi, hz, hself]
        have hzv : ∀ w : World, (zeroValue t).run P w = .ok z w := fun w => by simp [zeroValue, typeInfo, Sem.run_bind, hi, hz, Result.andThen]
        have hpl : (parts.map fun (i, x) => (i, ρ x)).toList = partsOf ρ parts.toList := by
          rw [Array.toList_map]; rfl
        have hrun : (execOp ρ { dst := none, op := .build t parts, type := ty, pos := "", after := #[], guard := none }).run P w = .ok (.value (.agg cs)) w := by
          simp only [execOp, Instr.build, Sem.run_bind, hzv, Result.andThen, run_underlying' hu, run_sizeOf' hie, hpl, hfill, Sem.run_pure]
        have : sone P K ρ w (.raw (.build t parts) ty) = .ret (.agg cs, w) := by
          simp only [sone, pstep, istep, hc, if_true, hz0, hrun, ofRun, pval, T.bind]
        rw [this]
        exact .ret hs
      · exact .bad _
    · exact .bad _
  · exact .bad _
noncomputable def numOf (v : Value) : Option Int := match v with
  | .int _ y => some y
  | _ => none
noncomputable def bestR (lt : Int → Int → Bool) (k : IntKind) (l : List Value) : Int → Option (IntKind × Int) :=
  List.rec (motive := fun _ => Int → Option (IntKind × Int)) (fun x => some (k, x)) (fun v _ h x => Option.rec (motive := fun _ => Option (IntKind × Int)) none (fun y => Bool.rec (motive := fun _ => Option (IntKind × Int)) (h x) (h y) (lt y x)) (numOf v)) l
noncomputable def bestF (lt : Int → Int → Bool) (l : List Value) : Option (IntKind × Int) :=
  match l with
  | .int k x :: rest => bestR lt k rest x
  | _ => none
theorem bestR_cons (lt : Int → Int → Bool) (k j : IntKind) (z : Int) (l : List Value) (x : Int) : bestR lt k (.int j z :: l) x = if lt z x = true then bestR lt k l z else bestR lt k l x := by
  have : bestR lt k (.int j z :: l) x = Bool.rec (motive := fun _ => Option (IntKind × Int)) (bestR lt k l x) (bestR lt k l z) (lt z x) := rfl
  rw [this]
  cases lt z x <;> rfl
theorem fold_best (P : Program) (lt : Int → Int → Bool) (f : Value → Value → Sem Value) (hf : ∀ k x j z, f (.int k x) (.int j z) = Pure.pure (.int k (if lt z x = true then z else x))) (k : IntKind) :
    ∀ (l : List Value) (x : Int) (k' : IntKind) (y : Int) (w : World), bestR lt k l x = some (k', y) → k' = k ∧ (∀ v ∈ l, keyFit v = true) ∧ (l.foldlM f (.int k x)).run P w = .ok (.int k y) w
  | [], x, k', y, w, h => by
    have h' := Option.some.inj h
    cases h'
    exact ⟨rfl, by simp, rfl⟩
  | v :: l, x, k', y, w, h => by
    cases v with
    | int j z =>
      rw [bestR_cons] at h
      rw [List.foldlM_cons, hf, pure_bind]
      by_cases hlt : lt z x = true
      · rw [if_pos hlt] at h
        obtain ⟨a, b, c⟩ := fold_best P lt f hf k l z k' y w h
        rw [if_pos hlt]
        exact ⟨a, fun u hu => (List.mem_cons.1 hu).elim (fun e => by subst e; rfl) (b u), c⟩
      · rw [if_neg hlt] at h
        obtain ⟨a, b, c⟩ := fold_best P lt f hf k l x k' y w h
        rw [if_neg hlt]
        exact ⟨a, fun u hu => (List.mem_cons.1 hu).elim (fun e => by subst e; rfl) (b u), c⟩
    | _ => cases h
theorem min_best (k : IntKind) (x : Int) (j : IntKind) (z : Int) : Builtin.min2 (.int k x) (.int j z) = Pure.pure (.int k (if ltI z x = true then z else x)) := by
  rw [ltI_eq]
  show Pure.pure (Value.int k (if z < x then z else x)) = _
  by_cases h : z < x <;> simp [h]
theorem max_best (k : IntKind) (x : Int) (j : IntKind) (z : Int) : Builtin.max2 (.int k x) (.int j z) = Pure.pure (.int k (if (fun a b => ltI b a) z x = true then z else x)) := by
  simp only [ltI_eq]
  show Pure.pure (Value.int k (if z > x then z else x)) = _
  by_cases h : x < z <;> simp [h]
noncomputable def leastF : List Value → Option (IntKind × Int) := bestF ltI
noncomputable def mostF : List Value → Option (IntKind × Int) := bestF fun a b => ltI b a
noncomputable def oneF (r : Option (IntKind × Int)) (w : FW) : T (Value × FW) := match r with
  | some (k, n) => .ret (.int k n, w)
  | none => .bad
theorem least_tr (hs : SimW fw w) (P : Program) (K : Kont) (ρ : Regs) (args : Array Operand) (at_ : Array TypeId) (ty : TypeId) (hc : ((Op.call { callee := .builtin .min, args, argTypes := at_ }).operands.all constFit) = true) :
    TR (oneF (leastF (args.map ρ).toList) fw) (sone P K ρ w (.raw (.call { callee := .builtin .min, args, argTypes := at_ }) ty)) := by
  unfold oneF
  split
  · rename_i k n h
    unfold leastF bestF at h
    split at h
    · rename_i j x rest hl
      obtain ⟨rfl, hk, hrun⟩ := fold_best P _ _ min_best _ rest x k n w h
      have hall : (args.toList.all fun x => keyFit (ρ x)) = true := by
        rw [List.all_eq_true]
        intro a ha
        have : ρ a ∈ (args.map ρ).toList := by rw [Array.toList_map]; exact List.mem_map_of_mem ha
        rw [hl] at this
        rcases List.mem_cons.1 this with e | e
        · rw [e]; rfl
        · exact hk _ e
      have he := run_builtin (b := .min) (args := args) (at_ := at_) (ty := ty) (ρ := ρ) (c := { callee := .builtin .min, args, argTypes := at_ }) rfl rfl rfl
      have : sone P K ρ w (.raw (.call { callee := .builtin .min, args, argTypes := at_ }) ty) = .ret (.int k n, w) := by
        simp only [sone, pstep, istep, hc, if_true, hall, he, builtin, Builtin.min_, hl, Sem.run_bind, hrun, ofRun, pval, T.bind, Result.andThen, Sem.run_pure]
      rw [this]
      exact .ret hs
    · cases h
  · exact .bad _
theorem most_tr (hs : SimW fw w) (P : Program) (K : Kont) (ρ : Regs) (args : Array Operand) (at_ : Array TypeId) (ty : TypeId) (hc : ((Op.call { callee := .builtin .max, args, argTypes := at_ }).operands.all constFit) = true) :
    TR (oneF (mostF (args.map ρ).toList) fw) (sone P K ρ w (.raw (.call { callee := .builtin .max, args, argTypes := at_ }) ty)) := by
  unfold oneF
  split
  · rename_i k n h
    unfold mostF bestF at h
    split at h
    · rename_i j x rest hl
      obtain ⟨rfl, hk, hrun⟩ := fold_best P _ _ max_best _ rest x k n w h
      have hall : (args.toList.all fun x => keyFit (ρ x)) = true := by
        rw [List.all_eq_true]
        intro a ha
        have : ρ a ∈ (args.map ρ).toList := by rw [Array.toList_map]; exact List.mem_map_of_mem ha
        rw [hl] at this
        rcases List.mem_cons.1 this with e | e
        · rw [e]; rfl
        · exact hk _ e
      have he := run_builtin (b := .max) (args := args) (at_ := at_) (ty := ty) (ρ := ρ) (c := { callee := .builtin .max, args, argTypes := at_ }) rfl rfl rfl
      have : sone P K ρ w (.raw (.call { callee := .builtin .max, args, argTypes := at_ }) ty) = .ret (.int k n, w) := by
        simp only [sone, pstep, istep, hc, if_true, hall, he, builtin, Builtin.max_, hl, Sem.run_bind, hrun, ofRun, pval, T.bind, Result.andThen, Sem.run_pure]
      rw [this]
      exact .ret hs
    · cases h
  · exact .bad _
noncomputable def layF (b o : Nat) (l : List Value) (w : FW) : Option FW := match w.h.get b with
  | some (.cells m t e (0, 0)) => match Nat.ble (Nat.add o l.length) m, all1 l with
    | true, true => some (w.set b (.cells m (Tr.put l t o) e (0, 0)))
    | _, _ => none
  | _ => none
theorem lay_ok (hs : SimW fw w) (P : Program) {b o : Nat} {l : List Value} {fw' : FW} (h : layF b o l fw = some fw') : ∃ w', (storeCells ⟨b, o, none⟩ l).run P w = .ok () w' ∧ SimW fw' w' := by
  unfold layF at h
  split at h
  · rename_i m t e hb
    split at h
    · rename_i h1 h2
      simp only [Option.some.injEq] at h
      subst h
      obtain ⟨c, hc, hcr⟩ := hs.cells hb
      have hw := cellsOf?_spec hc
      rw [all1_eq] at h2
      have hle : o + l.length ≤ m := Nat.le_of_ble_eq_true h1
      have := run_storeCells (P := P) l 0 c w hw (by rw [hcr.1]; omega) h2
      refine ⟨_, this, ?_⟩
      have hset := hs.set hb (o := .cells (putCells c o l) e) (fo := .cells m (Tr.put l t o) e (0, 0)) ⟨_, rfl, CR.put l o hcr hle⟩
      by_cases he : l = []
      · subst he
        rw [if_pos rfl]
        have : World.set w b (.cells (putCells c o []) e) = w := World.set_self hw
        rw [this] at hset
        exact hset
      · rw [if_neg he]; exact hset
    · cases h
  · cases h
noncomputable def clearF (P : Program) (ts : Array TypeId) (args : List Value) (w : FW) : T (Value × FW) :=
  match args, ts.toList with
  | [.slice (some ⟨b, o, none⟩) (n + 1) _], [t] => match P.underlying t with
    | some (.slice e) => match P.info? e with
      | some i => match i.zero with
        | some z => match selfD 4 z, z.cells.toList with
          | true, [v] => match layF b o (repR (n + 1) v) w with
            | some w' => .ret (.tuple #[], w')
            | none => .bad
          | _, _ => .bad
        | none => .bad
      | none => .bad
    | _ => .bad
  | [.slice _ 0 _], [t] => match P.underlying t with
    | some (.slice e) => match zeroOk P e with
      | true => .ret (.tuple #[], w)
      | false => .bad
    | _ => .bad
  | _, _ => .bad
theorem zero_rep {z v : Value} (h : z.cells.toList = [v]) (n : Nat) : (Builtin.zeroCells z.cells n).toList = repR n v := by
  have hc : z.cells = #[v] := Array.ext' h
  rw [repR_eq, hc]
  unfold Builtin.zeroCells
  apply List.ext_getElem?
  intro i
  simp only [Array.toList_map, Array.toList_range, List.getElem?_map, List.getElem?_replicate, List.size_toArray, List.length_cons, List.length_nil, Nat.zero_add, Nat.mul_one]
  by_cases hi : i < n
  · rw [List.getElem?_range hi, if_pos hi]
    simp [Nat.mod_one]
  · rw [if_neg hi, List.getElem?_eq_none (by simpa using hi)]
    rfl
theorem clear_tr (hs : SimW fw w) (P : Program) (K : Kont) (ρ : Regs) (args : Array Operand) (at_ : Array TypeId) (ty : TypeId) (hc : ((Op.call { callee := .builtin .clear, args, argTypes := at_ }).operands.all constFit) = true) :
    TR (clearF P at_ (args.map ρ).toList fw) (sone P K ρ w (.raw (.call { callee := .builtin .clear, args, argTypes := at_ }) ty)) := by
  have he := run_builtin (b := .clear) (args := args) (at_ := at_) (ty := ty) (ρ := ρ) (c := { callee := .builtin .clear, args, argTypes := at_ }) rfl rfl rfl
  unfold clearF
  split
  · rename_i b o n c t ha ht
    have ha0 : (args.map ρ)[0]? = some (.slice (some ⟨b, o, none⟩) (n + 1) c) := by rw [← Array.getElem?_toList, ha]; rfl
    have ht0 : at_[0]? = some t := by rw [← Array.getElem?_toList, ht]; rfl
    split
    · rename_i e hu
      split
      · rename_i i hi
        split
        · rename_i z hz
          split
          · rename_i v hself hzv1
            split
            · rename_i fw' hl
              rw [← zero_rep hzv1] at hl
              obtain ⟨w', h1, h2⟩ := lay_ok hs P hl
              have hzv : (zeroValue e).run P w = .ok z w := by simp [zeroValue, typeInfo, Sem.run_bind, hi, hz, Result.andThen]
              have hcf : clearFit P at_ = true := by unfold clearFit zeroOk; simp only [ht0, hu, hi, hz, hself]
              have : sone P K ρ w (.raw (.call { callee := .builtin .clear, args, argTypes := at_ }) ty) = .ret (.tuple #[], w') := by
                simp only [sone, pstep, istep, hc, if_true, ha0, isSlice, hcf, Bool.and_self, he, builtin, Builtin.clear_, ht0, Sem.run_bind, run_underlying' hu, Result.andThen, hzv, h1, ofRun, pval, T.bind, Sem.run_pure]
              rw [this]
              exact .ret h2
            · exact .bad _
          · exact .bad _
        · exact .bad _
      · exact .bad _
    · exact .bad _
  · rename_i a c t ha ht
    have ha0 : (args.map ρ)[0]? = some (.slice a 0 c) := by rw [← Array.getElem?_toList, ha]; rfl
    have ht0 : at_[0]? = some t := by rw [← Array.getElem?_toList, ht]; rfl
    split
    · rename_i e hu
      split
      · rename_i hz
        have hcf : clearFit P at_ = true := by unfold clearFit; simp only [ht0, hu, hz]
        have : sone P K ρ w (.raw (.call { callee := .builtin .clear, args, argTypes := at_ }) ty) = .ret (.tuple #[], w) := by
          simp only [sone, pstep, istep, hc, if_true, ha0, isSlice, hcf, Bool.and_self, he, builtin, Builtin.clear_, ht0, Sem.run_bind, run_underlying' hu, Result.andThen]
          cases a <;> rfl
        rw [this]
        exact .ret hs
      · exact .bad _
    · exact .bad _
  · exact .bad _
noncomputable def copyF (P : Program) (ts : Array TypeId) (args : List Value) (w : FW) : T (Value × FW) :=
  match args, ts.toList with
  | [.slice (some ⟨b, o, none⟩) n _, .slice x m _], t :: _ => match P.underlying t with
    | some (.slice e) => match P.info? e with
      | some i => match firstF i.size (Nat.min m n) x w with
        | some l => match layF b o l w with
          | some w' => .ret (.int .i64 (Nat.min m n : Nat), w')
          | none => .bad
        | none => .bad
      | none => .bad
    | _ => .bad
  | _, _ => .bad
theorem run_first {size n : Nat} {x : Option Addr} {cs : Array Value} (h : firstS size n x w = some cs) (P : Program) (l c : Nat) : (Builtin.firstCells size n (.slice x l c)).run P w = .ok cs w := by
  unfold firstS at h
  split at h
  · simp only [Option.some.injEq] at h; subst h; rfl
  · rename_i b o
    split at h
    · rename_i cells e fz hb
      split at h
      · rename_i hle
        simp only [Option.some.injEq] at h
        subst h
        have := run_loadCells (P := P) (cellsOf?_spec hb) (n * size) 0 #[] (by simpa using hle)
        simpa [Builtin.firstCells, loadCells] using this
      · cases h
    · cases h
  · cases h
theorem copy_tr (hs : SimW fw w) (P : Program) (K : Kont) (ρ : Regs) (args : Array Operand) (at_ : Array TypeId) (ty : TypeId) (hc : ((Op.call { callee := .builtin .copy, args, argTypes := at_ }).operands.all constFit) = true) :
    TR (copyF P at_ (args.map ρ).toList fw) (sone P K ρ w (.raw (.call { callee := .builtin .copy, args, argTypes := at_ }) ty)) := by
  have he := run_builtin (b := .copy) (args := args) (at_ := at_) (ty := ty) (ρ := ρ) (c := { callee := .builtin .copy, args, argTypes := at_ }) rfl rfl rfl
  unfold copyF
  split
  · rename_i b o n c x m c2 t ts ha ht
    have ha0 : (args.map ρ)[0]? = some (.slice (some ⟨b, o, none⟩) n c) := by rw [← Array.getElem?_toList, ha]; rfl
    have ha1 : (args.map ρ)[1]? = some (.slice x m c2) := by rw [← Array.getElem?_toList, ha]; rfl
    have ht0 : at_[0]? = some t := by rw [← Array.getElem?_toList, ht]; rfl
    split
    · rename_i e hu
      split
      · rename_i i hi
        split
        · rename_i l hf
          split
          · rename_i fw' hl
            have h0 := run_first (first_ok hs hf) P m c2
            obtain ⟨w', h1, h2⟩ := lay_ok hs P hl
            have : sone P K ρ w (.raw (.call { callee := .builtin .copy, args, argTypes := at_ }) ty) = .ret (.int .i64 (Nat.min m n : Nat), w') := by
              simp only [sone, pstep, istep, hc, if_true, ha0, ha1, isSlice, Bool.and_self, he, builtin, Builtin.copy_, ht0, Sem.run_bind, run_underlying' hu, Result.andThen, Builtin.lenOf, Sem.run_pure, run_sizeOf' hi, h0, h1, ofRun, pval, T.bind]
              rfl
            rw [this]
            exact .ret h2
          · exact .bad _
        · exact .bad _
      · exact .bad _
    · exact .bad _
  · exact .bad _
theorem raw_mapEntry (P : Program) (K : Kont) (ρ : Regs) (w w' : World) {t kt et : TypeId} {x kx : Operand} (ty : TypeId) {inf : TypeInfo} {z v : Value} {r : Nat} {i : Int} (hu : P.underlying t = some (.map kt et)) (hk : P.underlying kt = some (.int .i64)) (hi : P.info? et = some inf) (hz : inf.zero = some z) (hs : selfD 4 z = true)
    (hx : ρ x = .map (some r)) (hkx : ρ kx = .int .i64 i) (hc : constFit x = true) (hck : constFit kx = true) (hrun : (Instr.mapEntry t (.map (some r)) (.int .i64 i)).run P w = .ok v w') :
    sone P K ρ w (.raw (.mapEntry t x kx) ty) = .ret (v, w') := by
  have hops : ((Op.mapEntry t x kx).operands.all constFit) = true := by simp [Op.operands, hc, hck]
  have hkt : keyTy P t = true := by unfold keyTy isInt; rw [hu]; simp only [hk]
  have hel : elemOk P t = true := by unfold elemOk zeroOk; simp only [hu, hi, hz, hs]
  have hkf : keyFit (.int .i64 i) = true := rfl
  simp only [sone, pstep, istep, hops, if_true, execOp, hx, hkx, hkf, hel, hkt, Bool.and_self]
  exact pv hrun
theorem raw_entryStore (P : Program) (K : Kont) (ρ : Regs) (w w' : World) {t : TypeId} {x s vx : Operand} (ty : TypeId) (hops : ((Op.entryStore t x s vx).operands.all constFit) = true) (hrun : (Instr.entryStore t (ρ x) (ρ s) (ρ vx)).run P w = .ok () w') :
    sone P K ρ w (.raw (.entryStore t x s vx) ty) = .ret (undef, w') := by
  simp only [sone, pstep, istep, hops, if_true, execOp]
  exact pu hrun
noncomputable def mapEntF (P : Program) (t : TypeId) (x kx : Value) (w : FW) : T (Value × FW) :=
  match P.underlying t, x, kx with
  | some (.map kt et), .map (some r), .int .i64 i =>
    match P.underlying kt, P.info? et with
    | some (.int .i64), some inf =>
      match inf.zero with
      | some z =>
        match selfD 4 z, w.h.get r with
        | true, some (.other (.map es clock)) =>
          match Instr.findNow (.int .i64) (.int .i64 i) es.toList 0 with
          | some (some (q, u)) =>
            match es[q]? with
            | some en => match en.key with
              | .int .i64 i' => if i' = i then .ret (.tuple #[u, goInt en.born], w.set r (.other (.map (es.modify q fun e => { e with key := .int .i64 i }) clock))) else .bad
              | _ => .bad
            | none => .bad
          | some none => .ret (.tuple #[z, goInt clock], w.set r (.other (.map (es.push { key := .int .i64 i, val := z, born := clock }) (clock + 1))))
          | none => .bad
        | _, _ => .bad
      | none => .bad
    | _, _ => .bad
  | _, _, _ => .bad
noncomputable def entStoreF (x s v : Value) (w : FW) : T (Value × FW) :=
  match x, s with
  | .map (some r), .int _k st =>
    match w.h.get r with
    | some (.other (.map es clock)) =>
      match es.findIdx? (fun e => (e.born : Int) == st) with
      | some q => .ret (undef, w.set r (.other (.map (es.modify q fun e => { e with val := v }) clock)))
      | none => .bad
    | _ => .bad
  | _, _ => .bad
theorem mapEnt_tr (hs : SimW fw w) (P : Program) (K : Kont) (ρ : Regs) (t : TypeId) (x kx : Operand) (ty : TypeId) (hc : constFit x = true) (hck : constFit kx = true) : TR (mapEntF P t (ρ x) (ρ kx) fw) (sone P K ρ w (.raw (.mapEntry t x kx) ty)) := by
  unfold mapEntF
  split
  · rename_i kt et r i hu hx hkx
    split
    · rename_i inf hk hi
      split
      · rename_i z hz
        split
        · rename_i es clock hsd hr
          have hm := hs.other hr
          split
          · rename_i q u hf
            split
            · rename_i en hen
              split
              · rename_i i' hkey
                split
                · rename_i hii
                  subst hii
                  have hf' := run_findKey_int (P := P) (w := w) hk hf
                  have hks : (Instr.keyThatStays (.int .i64 i') (.int .i64 i')).run P w = .ok (.int .i64 i') w := by
                    unfold Instr.keyThatStays
                    rw [if_pos (by simp [Instr.sameBits])]
                    rfl
                  rw [raw_mapEntry P K ρ w (World.set w r (.map (es.modify q fun e => { e with key := .int .i64 i' }) clock)) (v := .tuple #[u, goInt en.born]) ty hu hk hi hz hsd hx hkx hc hck (by
                    simp only [Instr.mapEntry, Sem.run_bind, run_underlying' hu, Result.andThen, run_checkKey_int hk, hf', getObj, Sem.run, hm, hen, Option.map_some, Option.getD_some, hkey, hks, run_setObj_map hm]
                    rfl)]
                  exact .ret (hs.set hr ⟨rfl, fun _ _ _ h => by cases h⟩)
                · exact .bad _
              · exact .bad _
            · exact .bad _
          · rename_i hf
            have hf' := run_findKey_int (P := P) (w := w) hk hf
            rw [raw_mapEntry P K ρ w (World.set w r (.map (es.push { key := .int .i64 i, val := z, born := clock }) (clock + 1))) (v := .tuple #[z, goInt clock]) ty hu hk hi hz hsd hx hkx hc hck (by
              simp only [Instr.mapEntry, Sem.run_bind, run_underlying' hu, Result.andThen, run_checkKey_int hk, hf', getObj, Sem.run, hm, run_setObj_map hm, run_zero hi hz]
              rfl)]
            exact .ret (hs.set hr ⟨rfl, fun _ _ _ h => by cases h⟩)
          · exact .bad _
        · exact .bad _
      · exact .bad _
    · exact .bad _
  · exact .bad _
theorem entStore_tr (hs : SimW fw w) (P : Program) (K : Kont) (ρ : Regs) (t : TypeId) (x s v : Operand) (ty : TypeId) (hc : ((Op.entryStore t x s v).operands.all constFit) = true) : TR (entStoreF (ρ x) (ρ s) (ρ v) fw) (sone P K ρ w (.raw (.entryStore t x s v) ty)) := by
  unfold entStoreF
  split
  · rename_i r k st hx hst
    split
    · rename_i es clock hr
      have hm := hs.other hr
      split
      · rename_i q hfind
        rw [raw_entryStore P K ρ w (World.set w r (.map (es.modify q fun e => { e with val := ρ v }) clock)) ty hc (by
          rw [hx, hst]
          simp only [Instr.entryStore, Sem.run_bind, Result.andThen, getObj, Sem.run, hm, asInt, asIntOf, Sem.run_pure, hfind, run_setObj_map hm])]
        exact .ret (hs.set hr ⟨rfl, fun _ _ _ h => by cases h⟩)
      · exact .bad _
    · exact .bad _
  · exact .bad _
noncomputable def rawF (P : Program) (op : Op) (ρ : Regs) (w : FW) : T (Value × FW) :=
  match op with
  | .next x false => match constFit x with
    | true => nextF (ρ x) w
    | false => .bad
  | .range t x => match constFit x with
    | true => rangeF P t (ρ x) w
    | false => .bad
  | .entry x => match constFit x with
    | true => entryF (ρ x) w
    | false => .bad
  | .makeSlice t l c => match constFit l, constFit c with
    | true, true => makeF P t (ρ l) (ρ c) w
    | _, _ => .bad
  | .mapEntry t x kx => match constFit x, constFit kx with
    | true, true => mapEntF P t (ρ x) (ρ kx) w
    | _, _ => .bad
  | .entryStore t x s v => match (Op.entryStore t x s v).operands.all constFit with
    | true => entStoreF (ρ x) (ρ s) (ρ v) w
    | false => .bad
  | .index t x ix => match constFit x, constFit ix with
    | true, true => indexF P t (ρ x) (ρ ix) w
    | _, _ => .bad
  | .indexAddr t x ix => match constFit x, constFit ix with
    | true, true => iarrF P t (ρ x) (ρ ix) w
    | _, _ => .bad
  | .makeFunc (.func f) first cap => match (Op.makeFunc (.func f) first cap).operands.all constFit with
    | true => funcF f first cap ρ w
    | false => .bad
  | .makeInterface t x => match constFit x with
    | true => ifaceF P t (ρ x) w
    | false => .bad
  | .typeAssert x _ asserted ok => match constFit x with
    | true => assertF P asserted ok (ρ x) w
    | false => .bad
  | .build t parts => match (Op.build t parts).operands.all constFit with
    | true => arrBuildF P t (partsOf ρ parts.toList) w
    | false => .bad
  | .call { callee := .builtin .min, args, argTypes } => match (Op.call { callee := .builtin .min, args, argTypes }).operands.all constFit with
    | true => oneF (leastF (args.map ρ).toList) w
    | false => .bad
  | .call { callee := .builtin .max, args, argTypes } => match (Op.call { callee := .builtin .max, args, argTypes }).operands.all constFit with
    | true => oneF (mostF (args.map ρ).toList) w
    | false => .bad
  | .call { callee := .builtin .clear, args, argTypes } => match (Op.call { callee := .builtin .clear, args, argTypes }).operands.all constFit with
    | true => clearF P argTypes (args.map ρ).toList w
    | false => .bad
  | .call { callee := .builtin .copy, args, argTypes } => match (Op.call { callee := .builtin .copy, args, argTypes }).operands.all constFit with
    | true => copyF P argTypes (args.map ρ).toList w
    | false => .bad
  | _ => .bad
theorem raw_tr (hs : SimW fw w) (P : Program) (K : Kont) (ρ : Regs) (op : Op) (ty : TypeId) : TR (rawF P op ρ fw) (sone P K ρ w (.raw op ty)) := by
  unfold rawF
  split
  · rename_i x
    split
    · rename_i hc
      rw [raw_next P K ρ w x ty hc]
      exact next_tr hs P (ρ x) ty
    · exact .bad _
  · rename_i t x
    split
    · rename_i hc
      unfold rangeF
      split
      · rename_i kt et r hu hx
        split
        · rename_i es n hr
          rw [raw_range P K ρ w t kt et x ty hc hu hx (hs.other hr), hs.size]
          exact .ret (hs.push ⟨rfl, fun _ _ _ h => by cases h⟩)
        · exact .bad _
      · exact .bad _
    · exact .bad _
  · rename_i x
    split
    · rename_i hc
      unfold entryF
      split
      · rename_i it hx
        split
        · rename_i r since seen stepped hit
          split
          · rename_i es n b hr hb
            split
            · rename_i e hn he
              have hn' := Nat.eq_of_beq_eq_true hn
              subst hn'
              rw [raw_entry P K ρ w x ty hc hx (hs.other hit) (hs.other hr) hb he]
              exact .ret hs
            · exact .bad _
          · exact .bad _
        · exact .bad _
      · exact .bad _
    · exact .bad _
  · rename_i t l c
    split
    · rename_i hcl hcc
      unfold makeF
      split
      · rename_i e n m hu hl hc
        split
        · rename_i i hi
          split
          · rename_i k a hz hnm hsz hn1 hn2 hby
            have e1 := Nat.eq_of_beq_eq_true hnm
            have e2 := Nat.eq_of_beq_eq_true hsz
            have e3 := Nat.le_of_ble_eq_true hn1
            have e4 := Nat.le_of_ble_eq_true hn2
            have e5 := Nat.le_of_ble_eq_true hby
            subst e1
            rw [raw_make P K ρ w ty hl hc hcl hcc hu hi hz rfl e2 rfl (by omega) (by omega) e5, hs.size]
            exact .ret (hs.push ⟨_, rfl, CR.fill n _ (by omega)⟩)
          · exact .bad _
        · exact .bad _
      · exact .bad _
    · exact .bad _
  · rename_i t x kx
    split
    · rename_i hx hi; exact mapEnt_tr hs P K ρ t x kx ty hx hi
    · exact .bad _
  · rename_i t x s v
    split
    · rename_i hc; exact entStore_tr hs P K ρ t x s v ty hc
    · exact .bad _
  · rename_i t x ix
    split
    · rename_i hx hi; exact index_tr hs P K ρ t x ix ty hx hi
    · exact .bad _
  · rename_i t x ix
    split
    · rename_i hx hi; exact iarr_tr hs P K ρ t x ix ty hx hi
    · exact .bad _
  · rename_i f first cap
    split
    · rename_i hc; exact func_tr hs P K ρ f first cap ty hc
    · exact .bad _
  · rename_i t x
    split
    · rename_i hc; exact iface_tr hs P K ρ t x ty hc
    · exact .bad _
  · rename_i x xt asserted ok
    split
    · rename_i hc; exact assert_tr hs P K ρ x xt asserted ok ty hc
    · exact .bad _
  · rename_i t parts
    split
    · rename_i hc; exact arrBuild_tr hs P K ρ t parts ty hc
    · exact .bad _
  · rename_i args argTypes
    split
    · rename_i hc; exact least_tr hs P K ρ args argTypes ty hc
    · exact .bad _
  · rename_i args argTypes
    split
    · rename_i hc; exact most_tr hs P K ρ args argTypes ty hc
    · exact .bad _
  · rename_i args argTypes
    split
    · rename_i hc; exact clear_tr hs P K ρ args argTypes ty hc
    · exact .bad _
  · rename_i args argTypes
    split
    · rename_i hc; exact copy_tr hs P K ρ args argTypes ty hc
    · exact .bad _
  · exact .bad _
end
end Go.Ideal
