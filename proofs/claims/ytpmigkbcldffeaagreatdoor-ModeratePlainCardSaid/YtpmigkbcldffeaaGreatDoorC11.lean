/- What comes in, read as the program's data. -/
import Derived.Test.YtpmigkbcldffeaaGreatDoorC9
import Derived.Deep.Slices
import Derived.Deep.Strs
import Derived.SizedLaws
import Derived.Test.YtpmigkbcldffeaaGreatDoorRows
import Derived.ProofKit
import Derived.OpenShut
import Derived.Deep.DeepHandedRow
import Derived.Lay
import Derived.MakeChecks
import Derived.Lib.LaidTab
set_option linter.unusedVariables false
set_option linter.unusedSimpArgs false
set_option linter.unusedSectionVars false
namespace Go.Proofs.YtpmigkbcldffeaaGreatDoor
namespace Ab
open Go.ChangeShapes Go.WideShapes Go.RowKit Go.Deep
set_option maxRecDepth 10000
/-- All memory of a world, as what never changes. -/
def gW (W : World) : Gh := ⟨fun b o => W.cell? ⟨b, o, none⟩, fun _ => none⟩
section
variable {H : Type} (enc : TypeId × Value → H) (W : World)
/-- Whatever is read at this type is the program's data. -/
def Opn {α : Type} (t : TypeId) (E : α → List AV) (K : α → Prop) : Prop :=
  ∀ fuel cs x, DataW.trod enc Tryz.prog W 0 (fun _ => true) true fuel t cs = some x → (∀ n ∈ x.1.weights Tryz.prog t, n ≤ reachBytes) → ∃ y, K y ∧ CL (gW W) (E y) cs
variable {enc W}
theorem cl_one {g : Gh} {a : AV} {V : Value} (h : VR g a V) (k : V.oneCell' = true) : CL g [a] [V] := ⟨VL.cons h (VL.nil g), fun v hv => by rw [List.mem_singleton.1 hv]; exact k⟩
theorem opn_int {t : TypeId} (ht : Tryz.prog.underlying t = some (.int .i64)) : Opn enc W t (fun n : Int => [.int .i64 n]) (fun _ => True) := fun fuel cs x h _ => by
  obtain ⟨n, rfl, _, _⟩ := DataW.trod_int ht h
  exact ⟨n, trivial, cl_one (.int _ _) rfl⟩
theorem opn_bool {t : TypeId} (ht : Tryz.prog.underlying t = some .bool) : Opn enc W t (fun b : Bool => [.bool b]) (fun _ => True) := fun fuel cs x h _ => by
  obtain ⟨n, rfl, _⟩ := DataW.trod_bool ht h
  exact ⟨n, trivial, cl_one (.bool _) rfl⟩
theorem opn_str {t : TypeId} (ht : Tryz.prog.underlying t = some .string) : Opn enc W t (fun s : Str => [.str s]) (fun s => BL s.length) := fun fuel cs x h hw => by
  obtain ⟨s, rfl, rfl, hs⟩ := DataW.trod_string ht h
  refine ⟨s.data.toList, ?_, cl_one (.str _ s rfl) rfl⟩
  have : s.data.toList.length ≤ reachBytes := hw _ (by rw [DataW.weights]; exact List.mem_singleton.2 rfl)
  exact Nat.le_trans this (Nat.le_of_ble_eq_true rfl)
theorem weightsAll_mem {P : Program} {e : TypeId} : ∀ {l : List (DataW H)} {d : DataW H}, d ∈ l → ∀ n ∈ d.weights P e, n ∈ DataW.weightsAll P e l
  | x :: r, d, hd, n, hn => by
    rw [DataW.weightsAll, List.mem_append]
    rcases List.mem_cons.1 hd with rfl | hd
    · exact .inl hn
    · exact .inr (weightsAll_mem hd n hn)
theorem opn_slice {α : Type} [Inhabited α] {t e sz : Nat} {E : α → List AV} {K : α → Prop} (ht : Tryz.prog.underlying t = some (.slice e)) (hsz : Tryz.prog.cellsOf e = sz) (h0 : 0 < sz) {bs : Nat} (hbs : Tryz.prog.bytesOf e = bs) (hE : ∀ y, (E y).length = sz) (h : Opn enc W e E K) :
    Opn enc W t (fun l : List α => [.sl sz l.length (l.map E)]) (fun l => l.length * bs ≤ 140737488355328 ∧ ∀ y ∈ l, K y) := fun fuel cs x hx hw => by
  rcases open_slice ht hx with ⟨rfl, _⟩ | ⟨a, len, cap, m, n, D, Pl, rfl, _, hlc, hcm, hm, rfl, hall⟩
  · exact ⟨[], ⟨by simp, fun y hy => absurd hy List.not_mem_nil⟩, cl_one (.sl0 _ _ _) rfl⟩
  · have hm' : m = cap := hm.trans (if_pos rfl)
    rw [hsz] at hall
    rw [DataW.weights, ht] at hw
    simp only [List.mem_cons, List.mem_append, hbs] at hw
    have hw1 := hw _ (.inl rfl)
    have hw2 : ∀ i, i < len → ∀ n ∈ (D i).weights Tryz.prog e, n ≤ reachBytes := fun i hi n hn => hw n (.inr (.inl (weightsAll_mem (List.mem_map.2 ⟨i, List.mem_range.2 hi, rfl⟩) n hn)))
    have key : ∀ i, i < len → ∃ y, K y ∧ ∃ L, CL (gW W) (E y) L ∧ L.length = sz ∧ ∀ j, j < sz → W.cell? ((a.add (i * sz)).add j) = L[j]? := fun i hi => by
      obtain ⟨cs', h1, h2⟩ := hall i (by omega)
      obtain ⟨y, k1, k2⟩ := h n cs' _ h2 (hw2 i hi)
      obtain ⟨_, h3, h4⟩ := World.cells?_some h1
      exact ⟨y, k1, cs', k2, h3, h4⟩
    obtain ⟨f, hf⟩ := choose_lt key
    have hlen : len * bs ≤ 140737488355328 := by
      refine Nat.le_trans ?_ (Nat.le_trans hw1 (Nat.le_of_ble_eq_true rfl))
      refine Nat.mul_le_mul_right _ ?_
      rw [List.length_map, List.length_range]; omega
    refine ⟨(List.range len).map f, ⟨by rw [List.length_map, List.length_range]; exact hlen, fun y hy => ?_⟩, cl_one ?_ rfl⟩
    · obtain ⟨i, hi, rfl⟩ := List.mem_map.1 hy
      exact (hf i (List.mem_range.1 hi)).1
    · by_cases hz : 0 < len
      · obtain ⟨b, o, s⟩ := a
        have hs : s = none := by
          obtain ⟨_, L, _, hL, hc⟩ := hf 0 hz
          have := hc 0 h0
          rw [Nat.zero_mul] at this
          simp only [Addr.add, if_true] at this
          have hL0 : L[0]? = some (L[0]'(by omega)) := List.getElem?_eq_getElem _
          rw [hL0] at this
          unfold World.cell? at this
          split at this
          · cases s with
            | none => rfl
            | some s => simp at this
          · cases this
        subst hs
        have el : ((List.range len).map f).length = len := by rw [List.length_map, List.length_range]
        rw [el]
        refine VR.mk_sl (b := b) (o := o) (rows := ((List.range len).map f).map E) (fun i hi => ?_) (by rw [List.length_map, el]) hlc
        have hi' : i < len := by rw [List.length_map, List.length_map, List.length_range] at hi; exact hi
        obtain ⟨_, L, hL, hl, hc⟩ := hf i hi'
        refine ⟨L, by simpa using hL, hl, fun j V hV => ?_⟩
        have hj : j < sz := by rw [← hl]; exact (List.getElem?_eq_some_iff.1 hV).1
        have := hc j hj
        rw [hV, addr_add, addr_add] at this
        exact this
      · have : len = 0 := by omega
        subst this
        exact .sl0 _ _ _
theorem seg {g : Gh} {off sz n : Nat} {A B : List AV} {cs : List Value} (h : CL g A ((cs.drop off).take sz)) (k : CL g B (cs.drop n)) (e : n = off + sz) : CL g (A ++ B) (cs.drop off) := by
  subst e
  have := h.append k
  rwa [← List.drop_drop, List.take_append_drop] at this
theorem seg_end {g : Gh} {n : Nat} {cs : List Value} (h : cs.length = n) : CL g [] (cs.drop n) := by
  rw [List.drop_of_length_le (by omega)]
  exact ⟨VL.nil g, fun v hv => by cases hv⟩
theorem opn_strs : Opn enc W 26 (fun l : List Str => [strs l]) (fun l => l.length * 16 ≤ 140737488355328 ∧ ∀ s ∈ l, BL s.length) := opn_slice Tryz.underlying26 (by kernel_rfl) (by decide) (by kernel_rfl) (fun _ => rfl) (opn_str Tryz.underlying9)
theorem bl1 {n b : Nat} (hb : 1 ≤ b) (h : n * b ≤ 140737488355328) : BL n := Nat.le_trans (Nat.le_mul_of_pos_right n hb) h
theorem bl16 {n : Nat} (h : n * 16 ≤ 140737488355328) : BL n := bl1 (by decide) h
theorem bl32 {n : Nat} (h : n * 32 ≤ 140737488355328) : BL n := bl1 (by decide) h
theorem sw16 {l : List Str} (h : l.length * 16 ≤ 140737488355328 ∧ ∀ s ∈ l, BL s.length) : SW l := ⟨bl16 h.1, h.2⟩
instance : Inhabited Pt := ⟨⟨0, 0⟩⟩
instance : Inhabited Tg := ⟨⟨[], []⟩⟩
instance : Inhabited Ed := ⟨.zero⟩
instance : Inhabited Rc := ⟨⟨0, 0, 0, 0, [], [], [], [], false, 0, [], .zero, .zero⟩⟩
theorem opn_pt : Opn enc W 60 Pt.c (fun _ => True) := fun fuel cs x h hw => by
  obtain ⟨xs, n, _, rfl, hl, hlen, hf⟩ := DataW.trod_struct Tryz.underlying60 h
  rw [DataW.weights, Tryz.underlying60] at hw
  have hlen : xs.length = 2 := hlen
  obtain ⟨y0, k0, c0⟩ := opn_int Tryz.underlying3 n _ _ ((hf 0 _ rfl).trans (List.getElem?_eq_getElem (by omega))) (fun m hm => hw m (DataW.weights_mem_each (j := 0) rfl (by rw [List.getElem?_map, List.getElem?_eq_getElem (by omega)]; rfl) m hm))
  replace c0 : CL (gW W) _ ((cs.drop 0).take 1) := c0
  obtain ⟨y1, k1, c1⟩ := opn_int Tryz.underlying3 n _ _ ((hf 1 _ rfl).trans (List.getElem?_eq_getElem (by omega))) (fun m hm => hw m (DataW.weights_mem_each (j := 1) rfl (by rw [List.getElem?_map, List.getElem?_eq_getElem (by omega)]; rfl) m hm))
  replace c1 : CL (gW W) _ ((cs.drop 1).take 1) := c1
  exact ⟨⟨y0, y1⟩, trivial, (seg (n := 1) c0 (seg (n := 2) c1 (seg_end (n := 2) (hl.trans (by kernel_rfl))) rfl) rfl)⟩
theorem opn_tg : Opn enc W 139 Tg.c (fun t => BL t.Key.length ∧ BL t.Val.length) := fun fuel cs x h hw => by
  obtain ⟨xs, n, _, rfl, hl, hlen, hf⟩ := DataW.trod_struct Tryz.underlying139 h
  rw [DataW.weights, Tryz.underlying139] at hw
  have hlen : xs.length = 2 := hlen
  obtain ⟨y0, k0, c0⟩ := opn_str Tryz.underlying9 n _ _ ((hf 0 _ rfl).trans (List.getElem?_eq_getElem (by omega))) (fun m hm => hw m (DataW.weights_mem_each (j := 0) rfl (by rw [List.getElem?_map, List.getElem?_eq_getElem (by omega)]; rfl) m hm))
  replace c0 : CL (gW W) _ ((cs.drop 0).take 1) := c0
  obtain ⟨y1, k1, c1⟩ := opn_str Tryz.underlying9 n _ _ ((hf 1 _ rfl).trans (List.getElem?_eq_getElem (by omega))) (fun m hm => hw m (DataW.weights_mem_each (j := 1) rfl (by rw [List.getElem?_map, List.getElem?_eq_getElem (by omega)]; rfl) m hm))
  replace c1 : CL (gW W) _ ((cs.drop 1).take 1) := c1
  exact ⟨⟨y0, y1⟩, ⟨k0, k1⟩, (seg (n := 1) c0 (seg (n := 2) c1 (seg_end (n := 2) (hl.trans (by kernel_rfl))) rfl) rfl)⟩
theorem opn_pts : Opn enc W 45 (fun l : List Pt => [pts l]) (fun l => l.length * 16 ≤ 140737488355328 ∧ ∀ p ∈ l, True) := opn_slice Tryz.underlying45 (by kernel_rfl) (by decide) (by kernel_rfl) (fun _ => rfl) opn_pt
theorem opn_tgs : Opn enc W 61 (fun l : List Tg => [tgs l]) (fun l => l.length * 32 ≤ 140737488355328 ∧ ∀ t ∈ l, BL t.Key.length ∧ BL t.Val.length) := opn_slice Tryz.underlying61 (by kernel_rfl) (by decide) (by kernel_rfl) (fun _ => rfl) opn_tg
theorem opn_ob : Opn enc W 63 Ob.c Ob.wf := fun fuel cs x h hw => by
  obtain ⟨xs, n, _, rfl, hl, hlen, hf⟩ := DataW.trod_struct Tryz.underlying63 h
  rw [DataW.weights, Tryz.underlying63] at hw
  have hlen : xs.length = 5 := hlen
  obtain ⟨y0, k0, c0⟩ := opn_str Tryz.underlying9 n _ _ ((hf 0 _ rfl).trans (List.getElem?_eq_getElem (by omega))) (fun m hm => hw m (DataW.weights_mem_each (j := 0) rfl (by rw [List.getElem?_map, List.getElem?_eq_getElem (by omega)]; rfl) m hm))
  replace c0 : CL (gW W) _ ((cs.drop 0).take 1) := c0
  obtain ⟨y1, k1, c1⟩ := opn_int Tryz.underlying3 n _ _ ((hf 1 _ rfl).trans (List.getElem?_eq_getElem (by omega))) (fun m hm => hw m (DataW.weights_mem_each (j := 1) rfl (by rw [List.getElem?_map, List.getElem?_eq_getElem (by omega)]; rfl) m hm))
  replace c1 : CL (gW W) _ ((cs.drop 1).take 1) := c1
  obtain ⟨y2, k2, c2⟩ := opn_pt n _ _ ((hf 2 _ rfl).trans (List.getElem?_eq_getElem (by omega))) (fun m hm => hw m (DataW.weights_mem_each (j := 2) rfl (by rw [List.getElem?_map, List.getElem?_eq_getElem (by omega)]; rfl) m hm))
  replace c2 : CL (gW W) _ ((cs.drop 2).take 2) := c2
  obtain ⟨y3, k3, c3⟩ := opn_strs n _ _ ((hf 3 _ rfl).trans (List.getElem?_eq_getElem (by omega))) (fun m hm => hw m (DataW.weights_mem_each (j := 3) rfl (by rw [List.getElem?_map, List.getElem?_eq_getElem (by omega)]; rfl) m hm))
  replace c3 : CL (gW W) _ ((cs.drop 4).take 1) := c3
  obtain ⟨y4, k4, c4⟩ := opn_tgs n _ _ ((hf 4 _ rfl).trans (List.getElem?_eq_getElem (by omega))) (fun m hm => hw m (DataW.weights_mem_each (j := 4) rfl (by rw [List.getElem?_map, List.getElem?_eq_getElem (by omega)]; rfl) m hm))
  replace c4 : CL (gW W) _ ((cs.drop 5).take 1) := c4
  exact ⟨⟨y0, y1, y2, y3, y4⟩, ⟨k0, sw16 k3, bl32 k4.1, k4.2⟩, (seg (n := 1) c0 (seg (n := 2) c1 (seg (n := 4) c2 (seg (n := 5) c3 (seg (n := 6) c4 (seg_end (n := 6) (hl.trans (by kernel_rfl))) rfl) rfl) rfl) rfl) rfl)⟩
theorem opn_ed : Opn enc W 65 Ed.c Ed.wf := fun fuel cs x h hw => by
  obtain ⟨xs, n, _, rfl, hl, hlen, hf⟩ := DataW.trod_struct Tryz.underlying65 h
  rw [DataW.weights, Tryz.underlying65] at hw
  have hlen : xs.length = 9 := hlen
  obtain ⟨y0, k0, c0⟩ := opn_int Tryz.underlying3 n _ _ ((hf 0 _ rfl).trans (List.getElem?_eq_getElem (by omega))) (fun m hm => hw m (DataW.weights_mem_each (j := 0) rfl (by rw [List.getElem?_map, List.getElem?_eq_getElem (by omega)]; rfl) m hm))
  replace c0 : CL (gW W) _ ((cs.drop 0).take 1) := c0
  obtain ⟨y1, k1, c1⟩ := opn_str Tryz.underlying9 n _ _ ((hf 1 _ rfl).trans (List.getElem?_eq_getElem (by omega))) (fun m hm => hw m (DataW.weights_mem_each (j := 1) rfl (by rw [List.getElem?_map, List.getElem?_eq_getElem (by omega)]; rfl) m hm))
  replace c1 : CL (gW W) _ ((cs.drop 1).take 1) := c1
  obtain ⟨y2, k2, c2⟩ := opn_str Tryz.underlying9 n _ _ ((hf 2 _ rfl).trans (List.getElem?_eq_getElem (by omega))) (fun m hm => hw m (DataW.weights_mem_each (j := 2) rfl (by rw [List.getElem?_map, List.getElem?_eq_getElem (by omega)]; rfl) m hm))
  replace c2 : CL (gW W) _ ((cs.drop 2).take 1) := c2
  obtain ⟨y3, k3, c3⟩ := opn_str Tryz.underlying9 n _ _ ((hf 3 _ rfl).trans (List.getElem?_eq_getElem (by omega))) (fun m hm => hw m (DataW.weights_mem_each (j := 3) rfl (by rw [List.getElem?_map, List.getElem?_eq_getElem (by omega)]; rfl) m hm))
  replace c3 : CL (gW W) _ ((cs.drop 3).take 1) := c3
  obtain ⟨y4, k4, c4⟩ := opn_pt n _ _ ((hf 4 _ rfl).trans (List.getElem?_eq_getElem (by omega))) (fun m hm => hw m (DataW.weights_mem_each (j := 4) rfl (by rw [List.getElem?_map, List.getElem?_eq_getElem (by omega)]; rfl) m hm))
  replace c4 : CL (gW W) _ ((cs.drop 4).take 2) := c4
  obtain ⟨y5, k5, c5⟩ := opn_str Tryz.underlying9 n _ _ ((hf 5 _ rfl).trans (List.getElem?_eq_getElem (by omega))) (fun m hm => hw m (DataW.weights_mem_each (j := 5) rfl (by rw [List.getElem?_map, List.getElem?_eq_getElem (by omega)]; rfl) m hm))
  replace c5 : CL (gW W) _ ((cs.drop 6).take 1) := c5
  obtain ⟨y6, k6, c6⟩ := opn_str Tryz.underlying9 n _ _ ((hf 6 _ rfl).trans (List.getElem?_eq_getElem (by omega))) (fun m hm => hw m (DataW.weights_mem_each (j := 6) rfl (by rw [List.getElem?_map, List.getElem?_eq_getElem (by omega)]; rfl) m hm))
  replace c6 : CL (gW W) _ ((cs.drop 7).take 1) := c6
  obtain ⟨y7, k7, c7⟩ := opn_strs n _ _ ((hf 7 _ rfl).trans (List.getElem?_eq_getElem (by omega))) (fun m hm => hw m (DataW.weights_mem_each (j := 7) rfl (by rw [List.getElem?_map, List.getElem?_eq_getElem (by omega)]; rfl) m hm))
  replace c7 : CL (gW W) _ ((cs.drop 8).take 1) := c7
  obtain ⟨y8, k8, c8⟩ := opn_ob n _ _ ((hf 8 _ rfl).trans (List.getElem?_eq_getElem (by omega))) (fun m hm => hw m (DataW.weights_mem_each (j := 8) rfl (by rw [List.getElem?_map, List.getElem?_eq_getElem (by omega)]; rfl) m hm))
  replace c8 : CL (gW W) _ ((cs.drop 9).take 6) := c8
  exact ⟨⟨y0, y1, y2, y3, y4, y5, y6, y7, y8⟩, ⟨k1, k2, k3, k5, k6, sw16 k7, k8⟩, (seg (n := 1) c0 (seg (n := 2) c1 (seg (n := 3) c2 (seg (n := 4) c3 (seg (n := 6) c4 (seg (n := 7) c5 (seg (n := 8) c6 (seg (n := 9) c7 (seg (n := 15) c8 (seg_end (n := 15) (hl.trans (by kernel_rfl))) rfl) rfl) rfl) rfl) rfl) rfl) rfl) rfl) rfl)⟩
theorem opn_eds : Opn enc W 33 (fun l : List Ed => [eds l]) (fun l => l.length * 216 ≤ 140737488355328 ∧ ∀ e ∈ l, e.wf) := opn_slice Tryz.underlying33 (by kernel_rfl) (by decide) (by kernel_rfl) (fun _ => rfl) opn_ed
theorem opn_se : Opn enc W 44 Se.c Se.wf := fun fuel cs x h hw => by
  obtain ⟨xs, n, _, rfl, hl, hlen, hf⟩ := DataW.trod_struct Tryz.underlying44 h
  rw [DataW.weights, Tryz.underlying44] at hw
  have hlen : xs.length = 3 := hlen
  obtain ⟨y0, k0, c0⟩ := opn_int Tryz.underlying3 n _ _ ((hf 0 _ rfl).trans (List.getElem?_eq_getElem (by omega))) (fun m hm => hw m (DataW.weights_mem_each (j := 0) rfl (by rw [List.getElem?_map, List.getElem?_eq_getElem (by omega)]; rfl) m hm))
  replace c0 : CL (gW W) _ ((cs.drop 0).take 1) := c0
  obtain ⟨y1, k1, c1⟩ := opn_strs n _ _ ((hf 1 _ rfl).trans (List.getElem?_eq_getElem (by omega))) (fun m hm => hw m (DataW.weights_mem_each (j := 1) rfl (by rw [List.getElem?_map, List.getElem?_eq_getElem (by omega)]; rfl) m hm))
  replace c1 : CL (gW W) _ ((cs.drop 1).take 1) := c1
  obtain ⟨y2, k2, c2⟩ := opn_strs n _ _ ((hf 2 _ rfl).trans (List.getElem?_eq_getElem (by omega))) (fun m hm => hw m (DataW.weights_mem_each (j := 2) rfl (by rw [List.getElem?_map, List.getElem?_eq_getElem (by omega)]; rfl) m hm))
  replace c2 : CL (gW W) _ ((cs.drop 2).take 1) := c2
  exact ⟨⟨y0, y1, y2⟩, ⟨sw16 k1, sw16 k2⟩, (seg (n := 1) c0 (seg (n := 2) c1 (seg (n := 3) c2 (seg_end (n := 3) (hl.trans (by kernel_rfl))) rfl) rfl) rfl)⟩
theorem opn_pv : Opn enc W 47 Pv.c Pv.wf := fun fuel cs x h hw => by
  obtain ⟨xs, n, _, rfl, hl, hlen, hf⟩ := DataW.trod_struct Tryz.underlying47 h
  rw [DataW.weights, Tryz.underlying47] at hw
  have hlen : xs.length = 5 := hlen
  obtain ⟨y0, k0, c0⟩ := opn_str Tryz.underlying9 n _ _ ((hf 0 _ rfl).trans (List.getElem?_eq_getElem (by omega))) (fun m hm => hw m (DataW.weights_mem_each (j := 0) rfl (by rw [List.getElem?_map, List.getElem?_eq_getElem (by omega)]; rfl) m hm))
  replace c0 : CL (gW W) _ ((cs.drop 0).take 1) := c0
  obtain ⟨y1, k1, c1⟩ := opn_str Tryz.underlying9 n _ _ ((hf 1 _ rfl).trans (List.getElem?_eq_getElem (by omega))) (fun m hm => hw m (DataW.weights_mem_each (j := 1) rfl (by rw [List.getElem?_map, List.getElem?_eq_getElem (by omega)]; rfl) m hm))
  replace c1 : CL (gW W) _ ((cs.drop 1).take 1) := c1
  obtain ⟨y2, k2, c2⟩ := opn_strs n _ _ ((hf 2 _ rfl).trans (List.getElem?_eq_getElem (by omega))) (fun m hm => hw m (DataW.weights_mem_each (j := 2) rfl (by rw [List.getElem?_map, List.getElem?_eq_getElem (by omega)]; rfl) m hm))
  replace c2 : CL (gW W) _ ((cs.drop 2).take 1) := c2
  obtain ⟨y3, k3, c3⟩ := opn_pts n _ _ ((hf 3 _ rfl).trans (List.getElem?_eq_getElem (by omega))) (fun m hm => hw m (DataW.weights_mem_each (j := 3) rfl (by rw [List.getElem?_map, List.getElem?_eq_getElem (by omega)]; rfl) m hm))
  replace c3 : CL (gW W) _ ((cs.drop 3).take 1) := c3
  obtain ⟨y4, k4, c4⟩ := opn_se n _ _ ((hf 4 _ rfl).trans (List.getElem?_eq_getElem (by omega))) (fun m hm => hw m (DataW.weights_mem_each (j := 4) rfl (by rw [List.getElem?_map, List.getElem?_eq_getElem (by omega)]; rfl) m hm))
  replace c4 : CL (gW W) _ ((cs.drop 4).take 3) := c4
  exact ⟨⟨y0, y1, y2, y3, y4⟩, ⟨k0, k1, sw16 k2, bl16 k3.1, k4⟩, (seg (n := 1) c0 (seg (n := 2) c1 (seg (n := 3) c2 (seg (n := 4) c3 (seg (n := 7) c4 (seg_end (n := 7) (hl.trans (by kernel_rfl))) rfl) rfl) rfl) rfl) rfl)⟩
theorem opn_rc : Opn enc W 49 Rc.c Rc.wf := fun fuel cs x h hw => by
  obtain ⟨xs, n, _, rfl, hl, hlen, hf⟩ := DataW.trod_struct Tryz.underlying49 h
  rw [DataW.weights, Tryz.underlying49] at hw
  have hlen : xs.length = 13 := hlen
  obtain ⟨y0, k0, c0⟩ := opn_int Tryz.underlying3 n _ _ ((hf 0 _ rfl).trans (List.getElem?_eq_getElem (by omega))) (fun m hm => hw m (DataW.weights_mem_each (j := 0) rfl (by rw [List.getElem?_map, List.getElem?_eq_getElem (by omega)]; rfl) m hm))
  replace c0 : CL (gW W) _ ((cs.drop 0).take 1) := c0
  obtain ⟨y1, k1, c1⟩ := opn_int Tryz.underlying3 n _ _ ((hf 1 _ rfl).trans (List.getElem?_eq_getElem (by omega))) (fun m hm => hw m (DataW.weights_mem_each (j := 1) rfl (by rw [List.getElem?_map, List.getElem?_eq_getElem (by omega)]; rfl) m hm))
  replace c1 : CL (gW W) _ ((cs.drop 1).take 1) := c1
  obtain ⟨y2, k2, c2⟩ := opn_int Tryz.underlying3 n _ _ ((hf 2 _ rfl).trans (List.getElem?_eq_getElem (by omega))) (fun m hm => hw m (DataW.weights_mem_each (j := 2) rfl (by rw [List.getElem?_map, List.getElem?_eq_getElem (by omega)]; rfl) m hm))
  replace c2 : CL (gW W) _ ((cs.drop 2).take 1) := c2
  obtain ⟨y3, k3, c3⟩ := opn_int Tryz.underlying3 n _ _ ((hf 3 _ rfl).trans (List.getElem?_eq_getElem (by omega))) (fun m hm => hw m (DataW.weights_mem_each (j := 3) rfl (by rw [List.getElem?_map, List.getElem?_eq_getElem (by omega)]; rfl) m hm))
  replace c3 : CL (gW W) _ ((cs.drop 3).take 1) := c3
  obtain ⟨y4, k4, c4⟩ := opn_str Tryz.underlying9 n _ _ ((hf 4 _ rfl).trans (List.getElem?_eq_getElem (by omega))) (fun m hm => hw m (DataW.weights_mem_each (j := 4) rfl (by rw [List.getElem?_map, List.getElem?_eq_getElem (by omega)]; rfl) m hm))
  replace c4 : CL (gW W) _ ((cs.drop 4).take 1) := c4
  obtain ⟨y5, k5, c5⟩ := opn_strs n _ _ ((hf 5 _ rfl).trans (List.getElem?_eq_getElem (by omega))) (fun m hm => hw m (DataW.weights_mem_each (j := 5) rfl (by rw [List.getElem?_map, List.getElem?_eq_getElem (by omega)]; rfl) m hm))
  replace c5 : CL (gW W) _ ((cs.drop 5).take 1) := c5
  obtain ⟨y6, k6, c6⟩ := opn_eds n _ _ ((hf 6 _ rfl).trans (List.getElem?_eq_getElem (by omega))) (fun m hm => hw m (DataW.weights_mem_each (j := 6) rfl (by rw [List.getElem?_map, List.getElem?_eq_getElem (by omega)]; rfl) m hm))
  replace c6 : CL (gW W) _ ((cs.drop 6).take 1) := c6
  obtain ⟨y7, k7, c7⟩ := opn_str Tryz.underlying9 n _ _ ((hf 7 _ rfl).trans (List.getElem?_eq_getElem (by omega))) (fun m hm => hw m (DataW.weights_mem_each (j := 7) rfl (by rw [List.getElem?_map, List.getElem?_eq_getElem (by omega)]; rfl) m hm))
  replace c7 : CL (gW W) _ ((cs.drop 7).take 1) := c7
  obtain ⟨y8, k8, c8⟩ := opn_bool Tryz.underlying4 n _ _ ((hf 8 _ rfl).trans (List.getElem?_eq_getElem (by omega))) (fun m hm => hw m (DataW.weights_mem_each (j := 8) rfl (by rw [List.getElem?_map, List.getElem?_eq_getElem (by omega)]; rfl) m hm))
  replace c8 : CL (gW W) _ ((cs.drop 8).take 1) := c8
  obtain ⟨y9, k9, c9⟩ := opn_int Tryz.underlying3 n _ _ ((hf 9 _ rfl).trans (List.getElem?_eq_getElem (by omega))) (fun m hm => hw m (DataW.weights_mem_each (j := 9) rfl (by rw [List.getElem?_map, List.getElem?_eq_getElem (by omega)]; rfl) m hm))
  replace c9 : CL (gW W) _ ((cs.drop 9).take 1) := c9
  obtain ⟨y10, k10, c10⟩ := opn_str Tryz.underlying9 n _ _ ((hf 10 _ rfl).trans (List.getElem?_eq_getElem (by omega))) (fun m hm => hw m (DataW.weights_mem_each (j := 10) rfl (by rw [List.getElem?_map, List.getElem?_eq_getElem (by omega)]; rfl) m hm))
  replace c10 : CL (gW W) _ ((cs.drop 10).take 1) := c10
  obtain ⟨y11, k11, c11⟩ := opn_se n _ _ ((hf 11 _ rfl).trans (List.getElem?_eq_getElem (by omega))) (fun m hm => hw m (DataW.weights_mem_each (j := 11) rfl (by rw [List.getElem?_map, List.getElem?_eq_getElem (by omega)]; rfl) m hm))
  replace c11 : CL (gW W) _ ((cs.drop 11).take 3) := c11
  obtain ⟨y12, k12, c12⟩ := opn_pv n _ _ ((hf 12 _ rfl).trans (List.getElem?_eq_getElem (by omega))) (fun m hm => hw m (DataW.weights_mem_each (j := 12) rfl (by rw [List.getElem?_map, List.getElem?_eq_getElem (by omega)]; rfl) m hm))
  replace c12 : CL (gW W) _ ((cs.drop 14).take 7) := c12
  exact ⟨⟨y0, y1, y2, y3, y4, y5, y6, y7, y8, y9, y10, y11, y12⟩, ⟨⟨k4, sw16 k5, bl1 (by decide) k6.1, k6.2, k7, k10, k11, k12⟩, by have := k5.1; show y5.length ≤ _; omega⟩, (seg (n := 1) c0 (seg (n := 2) c1 (seg (n := 3) c2 (seg (n := 4) c3 (seg (n := 5) c4 (seg (n := 6) c5 (seg (n := 7) c6 (seg (n := 8) c7 (seg (n := 9) c8 (seg (n := 10) c9 (seg (n := 11) c10 (seg (n := 14) c11 (seg (n := 21) c12 (seg_end (n := 21) (hl.trans (by kernel_rfl))) rfl) rfl) rfl) rfl) rfl) rfl) rfl) rfl) rfl) rfl) rfl) rfl) rfl)⟩
theorem opn_rcs : Opn enc W 22 (fun l : List Rc => [rcs l]) (fun l => l.length * 336 ≤ 140737488355328 ∧ ∀ r ∈ l, r.wf) := opn_slice Tryz.underlying22 (by kernel_rfl) (by decide) (by kernel_rfl) (fun _ => rfl) opn_rc
theorem LW.lw0 {l : List Rc} (h : LW l) : LW0 l := ⟨h.len, fun r hr => (h.one r hr).1⟩
/-- An argument that is a list of records. -/
theorem arg_rcs {v : Value} {d : DataW H} {p : List MemPlace} (h : DataW.Trod enc Tryz.prog W 0 (fun _ => true) true 22 v d p) (hw : ∀ n ∈ d.weights Tryz.prog 22, n ≤ reachBytes) (h1 : v.cells.toList = [v]) : ∃ l : List Rc, LW l ∧ VR (gW W) (rcs l) v := by
  obtain ⟨fuel, h⟩ := h
  obtain ⟨l, k, c⟩ := opn_rcs fuel _ _ h hw
  rw [h1] at c
  exact ⟨l, ⟨bl1 (by decide) k.1, k.2⟩, c.at_ 0 (by simp) (by simp)⟩
end
end Ab
end Go.Proofs.YtpmigkbcldffeaaGreatDoor

/- From the contracts to the row's statements. -/
namespace Go.Proofs.YtpmigkbcldffeaaGreatDoor
namespace Ab
open Go.ChangeShapes Go.WideShapes Go.ChangeAt Go.RowKit
set_option maxRecDepth 10000
theorem own : ownKnob Tryz.prog.godebug = none := by kernel_rfl
theorem inv_start (W : World) : Inv AO.nil (gW W) W := ⟨fun b o v h => h, fun p cs h => (by cases h), fun p sz e h => (by cases h), fun p es h => (by cases h), fun p h => rfl, fun b n h => (by cases h), fun p t h => (by cases h)⟩
theorem nil_mut (b : Nat) : ¬ AO.nil.mut b := by rintro (h | h | h | h) <;> exact h rfl
theorem cst_of {W : World} (h : Lib.TabIs Tryz.prog W "internal/strconv.uint64pow10" .u64 Lib.pow10Tab) : CstOk AO.nil W := ⟨h, fun g _ => nil_mut g⟩
theorem laid_tail {P : Program} {x : String × DataW Unit} {r : List (String × DataW Unit)} {w : World} (h : laidMet P (x :: r) w) : laidMet P r w := by
  obtain ⟨ps, ⟨g, t, cs, fuel, p, q, _, _, _, _, h5, e⟩, hn, hr⟩ := h
  subst e
  exact ⟨q, h5, (List.nodup_append.1 hn).2.1, fun b off hp => hr b off (List.mem_append_right _ hp)⟩
theorem laidTab {W : World} (h : laidMetH Tryz.prog Rows.moderateBeginningsRow.laid W) : Lib.TabIs Tryz.prog W "internal/strconv.uint64pow10" .u64 Lib.pow10Tab := by
  rw [MakeChecks.laidMetH_plain _ _ _ (by kernel_rfl)] at h
  have h2 := laid_tail (laid_tail h)
  exact Lib.tabIs_of_head (g := 0) (by kernel_rfl) (by kernel_rfl) Tryz.underlying184 Tryz.underlying97 (by kernel_rfl) (by kernel_rfl) h2
section
variable {H : Type} {enc : TypeId × Value → H}
theorem all_carry {w w' : World} {sp : Nat → Bool} : ∀ {ts : List TypeId} {vs : List Value} {ds : List (DataW H)} {ps : List MemPlace}, DataW.TrodAll enc Tryz.prog w 0 sp true ts vs ds ps → (∀ p ∈ ps, w.sameAt w' p) → DataW.TrodAll enc Tryz.prog w' 0 sp true ts vs ds ps
  | [], [], [], _, h, _ => h
  | _ :: _, _ :: _, _ :: _, _, ⟨p, q, ⟨n, h1⟩, h2, e⟩, hs => by
    subst e
    exact ⟨p, q, ⟨n, DataW.trod_carry n _ _ _ h1 (fun x hx => hs x (List.mem_append_left _ hx))⟩, all_carry h2 (fun x hx => hs x (List.mem_append_right _ hx)), rfl⟩
theorem kids : Kids Tryz.prog (· < Tryz.prog.types.size) := kids_rows (by kernel_rfl) (by kernel_rfl)
theorem slices_full : ∀ t e, t < Tryz.prog.types.size → Tryz.prog.underlying t = some (.slice e) → 0 < Tryz.prog.cellsOf e := slices_full_of Tryz.prog (by kernel_rfl)
theorem below_of {W W' : World} {A' : AO} {g' : Gh} (hS : St AO.nil (gW W) W A' g' W') : Below W.heap.size W W' := ⟨hS.os, hS.tape, hS.output, hS.size, fun b hb => hS.block b hb (nil_mut b)⟩
/-- The law returned true: what the row asks of the end. -/
theorem post_true {f : Func} {s : ChangeSpec} {W W' : World} {args : Array Value} {ds : List (DataW H)} {before : List MemPlace} {A' : AO} {g' : Gh}
    (hW : DataW.Whole enc Tryz.prog f.params.toList s.vars false W args.toList ds [] before) (hA : DataW.TrodAll enc Tryz.prog W 0 (fun _ => true) true f.params.toList args.toList ds before)
    (hr : f.resultTypes = #[4]) (h1 : (s.fn H (ds ++ [])).results = [.lit (.bool true)]) (h2 : (s.fn H (ds ++ [])).args = ds) (h3 : (s.fn H (ds ++ [])).vars = []) (hv : s.vars = [])
    (hT : f.params.toList.all (fun t => decide (t < Tryz.prog.types.size)) = true) (hS : St AO.nil (gW W) W A' g' W') : s.post enc Tryz.prog f false true false false W args (.bool true) W' := by
  have hb := below_of hS
  have hlt : ∀ p ∈ before, p.block < W.heap.size := fun p hp => hW.lt p hp
  have hs : ∀ p ∈ before, W.sameAt W' p := fun p hp => by
    have := hb.block p.block (hlt p hp)
    cases p with
    | cell b off => exact World.cell?_of_block (w := W) (w' := W') (a := ⟨b, off, none⟩) this
    | map b => exact this
  refine ⟨ds, [], before, [], before, [], hW, ?_, ?_, ?_, hb.frame _, fun h => by cases h⟩
  · rw [h1, hr]
    exact trodAll_cons_mk (shut_bool Tryz.underlying4 _) trodAll_mk0
  · rw [h2]
    refine all_carry (DataW.TrodAll.respare kids slices_full (fun t ht => of_decide_eq_true (List.all_eq_true.1 hT t ht)) hA (fun p hp => ?_)) hs
    exact decide_eq_true (hlt p hp)
  · rw [h3, hv]; rfl
end
end Ab
end Go.Proofs.YtpmigkbcldffeaaGreatDoor
