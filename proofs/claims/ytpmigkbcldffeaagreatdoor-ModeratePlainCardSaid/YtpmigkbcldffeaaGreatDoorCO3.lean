/- What comes in, read as the program's data: records, worlds. -/
import Derived.Test.YtpmigkbcldffeaaGreatDoorC11
import Derived.Test.YtpmigkbcldffeaaGreatDoorCM5
set_option linter.unusedVariables false
set_option linter.unusedSimpArgs false
set_option linter.unusedSectionVars false
namespace Go.Proofs.YtpmigkbcldffeaaGreatDoor
namespace Ab
open Go.ChangeShapes Go.WideShapes Go.RowKit Go.Deep
set_option maxRecDepth 10000
section
variable {H : Type} {enc : TypeId × Value → H} {W : World}
theorem opn_raw {t e : TypeId} (ht : Tryz.prog.underlying t = some (.slice e)) : Opn enc W t (fun v : Value => [AV.raw v]) (fun _ => True) := fun fuel cs x h _ => by
  rcases open_slice ht h with ⟨rfl, _⟩ | ⟨a, len, cap, m, n, D, Pl, rfl, _⟩ <;> exact ⟨_, trivial, cl_one (.raw _) rfl⟩
theorem opn_ints : Opn enc W 27 (fun l : List Int => [ints l]) (fun l => l.length * 8 ≤ 140737488355328 ∧ ∀ n ∈ l, True) := opn_slice Tryz.underlying27 (by kernel_rfl) (by decide) (by kernel_rfl) (fun _ => rfl) (opn_int Tryz.underlying3)
theorem opn_mp : Opn enc W 25 (fun v : Value => [AV.raw v]) (fun _ => True) := fun fuel cs x h hw => by
  obtain ⟨xs, n, _, rfl, hl, hlen, hf⟩ := DataW.trod_struct Tryz.underlying25 h
  rw [DataW.weights, Tryz.underlying25] at hw
  have hlen : xs.length = 1 := hlen
  obtain ⟨y0, k0, c0⟩ := opn_raw Tryz.underlying23 n _ _ ((hf 0 _ rfl).trans (List.getElem?_eq_getElem (by omega))) (fun m hm => hw m (DataW.weights_mem_each (j := 0) rfl (by rw [List.getElem?_map, List.getElem?_eq_getElem (by omega)]; rfl) m hm))
  replace c0 : CL (gW W) _ ((cs.drop 0).take 1) := c0
  exact ⟨y0, trivial, (seg (n := 1) c0 (seg_end (n := 1) (hl.trans (by kernel_rfl))) rfl)⟩
theorem opn_wd : Opn enc W 30 Wd.c (fun w => BL w.ms.length) := fun fuel cs x h hw => by
  obtain ⟨xs, n, _, rfl, hl, hlen, hf⟩ := DataW.trod_struct Tryz.underlying30 h
  rw [DataW.weights, Tryz.underlying30] at hw
  have hlen : xs.length = 6 := hlen
  obtain ⟨y0, k0, c0⟩ := opn_mp n _ _ ((hf 0 _ rfl).trans (List.getElem?_eq_getElem (by omega))) (fun m hm => hw m (DataW.weights_mem_each (j := 0) rfl (by rw [List.getElem?_map, List.getElem?_eq_getElem (by omega)]; rfl) m hm))
  replace c0 : CL (gW W) _ ((cs.drop 0).take 1) := c0
  obtain ⟨y1, k1, c1⟩ := opn_raw Tryz.underlying26 n _ _ ((hf 1 _ rfl).trans (List.getElem?_eq_getElem (by omega))) (fun m hm => hw m (DataW.weights_mem_each (j := 1) rfl (by rw [List.getElem?_map, List.getElem?_eq_getElem (by omega)]; rfl) m hm))
  replace c1 : CL (gW W) _ ((cs.drop 1).take 1) := c1
  obtain ⟨y2, k2, c2⟩ := opn_ints n _ _ ((hf 2 _ rfl).trans (List.getElem?_eq_getElem (by omega))) (fun m hm => hw m (DataW.weights_mem_each (j := 2) rfl (by rw [List.getElem?_map, List.getElem?_eq_getElem (by omega)]; rfl) m hm))
  replace c2 : CL (gW W) _ ((cs.drop 2).take 1) := c2
  obtain ⟨y3, k3, c3⟩ := opn_int Tryz.underlying3 n _ _ ((hf 3 _ rfl).trans (List.getElem?_eq_getElem (by omega))) (fun m hm => hw m (DataW.weights_mem_each (j := 3) rfl (by rw [List.getElem?_map, List.getElem?_eq_getElem (by omega)]; rfl) m hm))
  replace c3 : CL (gW W) _ ((cs.drop 3).take 1) := c3
  obtain ⟨y4, k4, c4⟩ := opn_raw Tryz.underlying26 n _ _ ((hf 4 _ rfl).trans (List.getElem?_eq_getElem (by omega))) (fun m hm => hw m (DataW.weights_mem_each (j := 4) rfl (by rw [List.getElem?_map, List.getElem?_eq_getElem (by omega)]; rfl) m hm))
  replace c4 : CL (gW W) _ ((cs.drop 4).take 1) := c4
  obtain ⟨y5, k5, c5⟩ := opn_raw Tryz.underlying28 n _ _ ((hf 5 _ rfl).trans (List.getElem?_eq_getElem (by omega))) (fun m hm => hw m (DataW.weights_mem_each (j := 5) rfl (by rw [List.getElem?_map, List.getElem?_eq_getElem (by omega)]; rfl) m hm))
  replace c5 : CL (gW W) _ ((cs.drop 5).take 1) := c5
  exact ⟨⟨.raw y0, .raw y1, y2, .int .i64 y3, .raw y4, .raw y5⟩, bl1 (by decide) k2.1, (seg (n := 1) c0 (seg (n := 2) c1 (seg (n := 3) c2 (seg (n := 4) c3 (seg (n := 5) c4 (seg (n := 6) c5 (seg_end (n := 6) (hl.trans (by kernel_rfl))) rfl) rfl) rfl) rfl) rfl) rfl)⟩
theorem argI_rcs {v : Value} {d : DataW H} {p : List MemPlace} (h : DataW.Trod enc Tryz.prog W 0 (fun _ => true) true 22 v d p) (hw : ∀ n ∈ d.weights Tryz.prog 22, n ≤ reachBytes) {w : World} {r : Reach} {base : Nat} (hv : Value.okWide Tryz.prog w r base 22 v) : ∃ l : List Rc, LI l ∧ VR (gW W) (rcs l) v := by
  obtain ⟨a, n, c, rfl⟩ := okWide_slice Tryz.underlying22 hv
  obtain ⟨fuel, h⟩ := h
  obtain ⟨l, k, c⟩ := opn_rcs fuel _ _ h hw
  exact ⟨l, ⟨k.1, k.2⟩, c.at_ 0 (by simp) (by show 0 < 1; decide)⟩
theorem argI_rc {v : Value} {d : DataW H} {p : List MemPlace} (h : DataW.Trod enc Tryz.prog W 0 (fun _ => true) true 49 v d p) (hw : ∀ n ∈ d.weights Tryz.prog 49, n ≤ reachBytes) {w : World} {r : Reach} {base : Nat} (hv : Value.okWide Tryz.prog w r base 49 v) : ∃ x : Rc, x.wf ∧ VR (gW W) (.agg x.c) v := by
  obtain ⟨a, rfl, _⟩ := okWide_struct Tryz.underlying49 hv
  obtain ⟨fuel, h⟩ := h
  obtain ⟨x, k, c⟩ := opn_rc fuel _ _ h hw
  exact ⟨x, k, by have := VR.mk_agg (L := a.toList) c; simpa using this⟩
theorem argI_wd {v : Value} {d : DataW H} {p : List MemPlace} (h : DataW.Trod enc Tryz.prog W 0 (fun _ => true) true 30 v d p) (hw : ∀ n ∈ d.weights Tryz.prog 30, n ≤ reachBytes) {w : World} {r : Reach} {base : Nat} (hv : Value.okWide Tryz.prog w r base 30 v) : ∃ x : Wd, BL x.ms.length ∧ VR (gW W) (.agg x.c) v := by
  obtain ⟨a, rfl, _⟩ := okWide_struct Tryz.underlying30 hv
  obtain ⟨fuel, h⟩ := h
  obtain ⟨x, k, c⟩ := opn_wd fuel _ _ h hw
  exact ⟨x, k, by have := VR.mk_agg (L := a.toList) c; simpa using this⟩
end
end Ab
end Go.Proofs.YtpmigkbcldffeaaGreatDoor
