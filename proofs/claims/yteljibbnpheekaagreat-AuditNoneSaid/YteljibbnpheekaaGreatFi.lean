/-
  The fast evaluator: the library's Insert and Delete as answers.
-/
import Derived.Test.YteljibbnpheekaaGreatFg
namespace Go.Ideal
open Go
noncomputable def insF (k e0 : Nat) (args : Array Value) (w : FW) : Option (T (Value × FW)) :=
  match args.toList with
  | [.slice (some ⟨b, o, none⟩) n cap, .int .i64 (.ofNat i), .slice (some ⟨vb, vo, none⟩) 1 _] =>
    match Nat.ble (Nat.succ i) n with
    | true => match w.h.get b, w.h.get vb with
      | some (.cells m t e (0, 0)), some (.cells vm vt ve (0, 0)) =>
        match Nat.beq cap OPEN || Nat.beq cap n, Nat.beq e e0 && Nat.beq ve e0, Nat.ble (Nat.add o (Nat.mul n k)) m, Nat.ble (Nat.add vo k) vm, Nat.ble n 1000000, Nat.beq vb b with
        | true, true, true, true, true, false => match all1 (t.seg undef (Nat.mul n k) o), all1 (vt.seg undef k vo) with
          | true, true => some (.ret (.slice (some ⟨w.n, 0, none⟩) (Nat.succ n) OPEN,
              (w.cells (t.seg undef (Nat.mul i k) o ++ vt.seg undef k vo ++ t.seg undef (Nat.mul (Nat.sub n i) k) (Nat.add o (Nat.mul i k))) e).set b deadF))
          | _, _ => some .bad
        | _, _, _, _, _, _ => some .bad
      | _, _ => some .bad
    | false => none
  | _ => none
end Go.Ideal
