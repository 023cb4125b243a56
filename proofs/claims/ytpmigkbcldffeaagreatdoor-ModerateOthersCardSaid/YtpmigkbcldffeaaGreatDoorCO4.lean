/- What comes in: bytes, strings. -/
import Derived.Test.YtpmigkbcldffeaaGreatDoorCO3
set_option linter.unusedVariables false
set_option linter.unusedSimpArgs false
set_option linter.unusedSectionVars false
namespace Go.Proofs.YtpmigkbcldffeaaGreatDoor
namespace Ab
open Go.ChangeShapes Go.WideShapes Go.RowKit Go.Deep
set_option maxRecDepth 10000
section
variable {H : Type} {enc : TypeId × Value → H} {W : World}
theorem argI_u8 {v : Value} {d : DataW H} {p : List MemPlace} (h : DataW.Trod enc Tryz.prog W 0 (fun _ => true) true 5 v d p) (_hw : ∀ n ∈ d.weights Tryz.prog 5, n ≤ reachBytes) {w : World} {r : Reach} {base : Nat} (hv : Value.okWide Tryz.prog w r base 5 v) : ∃ n : Int, (0 ≤ n ∧ n < 256) ∧ VR (gW W) (.int .u8 n) v := by
  obtain ⟨m, rfl⟩ := okWide_int Tryz.underlying5 hv
  obtain ⟨fuel, h⟩ := h
  obtain ⟨n, e, _, hwf⟩ := DataW.trod_int Tryz.underlying5 h
  have e : m = n := by
    have : [Value.int .u8 m] = [Value.int .u8 n] := e
    injection this with this
    injection this
  subst e
  refine ⟨m, ?_, .int _ _⟩
  unfold Lit.wf at hwf
  rw [Bool.and_eq_true, decide_eq_true_eq, decide_eq_true_eq] at hwf
  have h1 : (0 : Int) ≤ m := hwf.1
  have h2 : m ≤ 2 ^ 8 - 1 := hwf.2
  exact ⟨h1, by omega⟩
theorem argI_str {v : Value} {d : DataW H} {p : List MemPlace} (h : DataW.Trod enc Tryz.prog W 0 (fun _ => true) true 9 v d p) (hw : ∀ n ∈ d.weights Tryz.prog 9, n ≤ reachBytes) {w : World} {r : Reach} {base : Nat} (hv : Value.okWide Tryz.prog w r base 9 v) : ∃ s : Str, BL s.length ∧ VR (gW W) (.str s) v := by
  obtain ⟨b, rfl⟩ := okWide_string Tryz.underlying9 hv
  obtain ⟨fuel, h⟩ := h
  obtain ⟨s, k, c⟩ := opn_str Tryz.underlying9 fuel _ _ h hw
  exact ⟨s, k, c.at_ 0 (by simp) (by show 0 < 1; decide)⟩
end
end Ab
end Go.Proofs.YtpmigkbcldffeaaGreatDoor
