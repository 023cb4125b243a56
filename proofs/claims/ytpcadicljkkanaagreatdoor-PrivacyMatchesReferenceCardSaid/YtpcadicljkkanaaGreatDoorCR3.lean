/- The reference of privacy. -/
import Derived.Test.YtpcadicljkkanaaGreatDoorC10
import Derived.Test.YtpcadicljkkanaaGreatDoorCL3
set_option linter.unusedVariables false
set_option linter.unusedSimpArgs false
set_option linter.unusedSectionVars false
namespace Go.Proofs.YtpcadicljkkanaaGreatDoor
namespace Ab
open Go.RowKit Go.Shelf Go.Lib
set_option maxRecDepth 10000
theorem tail5 {r : Rc} (hk : r.Kind = 5) : tailR r = ((r.Target == []) && ((r.Yes == false) && ((r.Order == 0) && ((r.From == []) && (decide ((r.Edits.length : Int) > 0) == false))))) := by
  have hW : wantR r = some ([], false, 0, [], false) := by unfold wantR; rw [if_neg (by omega), if_neg (by omega), if_neg (by omega), if_neg (by omega), if_pos hk]
  unfold tailR
  rw [hW]
  simp [hk]
theorem own5 (r : Rc) (hr : r.wf) (hk : r.Kind = 5) : PSpec Tryz.prog 103 [.agg r.c] (.bool (tailR r)) := by
  have hT := tail5 hk
  refine PSpec.by Tryz.func103 rfl Tryz.ntmps103 [] rfl fun A => ?_
  (conv => whnf)
  repeat' ((first | (refine BK.eq (fun h => absurd (hk.symm.trans h) (by decide)) (fun _ => ?_)) | (refine BK.eq (fun _ => ?_) (fun h => absurd hk h)) | (refine BK.ne (fun _ => ?_) (fun h => absurd (hk.symm.trans h) (by decide)))) <;> (conv => whnf))
  refine BK.mk (fun f5 => ?_) (fun f5 => ?_) <;> (conv => whnf)
  · exact FK.eq (b_eq (by rw [hT, f5]; simp))
  repeat' ((first | (refine BK.eq (fun h => absurd (hk.symm.trans h) (by decide)) (fun _ => ?_)) | (refine BK.eq (fun _ => ?_) (fun h => absurd hk h)) | (refine BK.ne (fun _ => ?_) (fun h => absurd (hk.symm.trans h) (by decide)))) <;> (conv => whnf))
  refine BK.ne (fun f1 => ?_) (fun f1 => ?_) <;> (conv => whnf)
  · exact FK.eq (b_eq (by rw [hT]; have : (r.Target == []) = false := beq_eq_false_iff_ne.2 f1
                          rw [this]; rfl))
  have f1 : (r.Target == []) = true := beq_iff_eq.2 f1
  repeat' ((first | (refine BK.eq (fun h => absurd (hk.symm.trans h) (by decide)) (fun _ => ?_)) | (refine BK.eq (fun _ => ?_) (fun h => absurd hk h)) | (refine BK.ne (fun _ => ?_) (fun h => absurd (hk.symm.trans h) (by decide)))) <;> (conv => whnf))
  refine BK.ne (fun f2 => ?_) (fun f2 => ?_) <;> (conv => whnf)
  · exact FK.eq (b_eq (by rw [hT]; have : (r.Order == 0) = false := beq_eq_false_iff_ne.2 f2
                          rw [this]; simp))
  have f2 : (r.Order == 0) = true := beq_iff_eq.2 f2
  repeat' ((first | (refine BK.eq (fun h => absurd (hk.symm.trans h) (by decide)) (fun _ => ?_)) | (refine BK.eq (fun _ => ?_) (fun h => absurd hk h)) | (refine BK.ne (fun _ => ?_) (fun h => absurd (hk.symm.trans h) (by decide)))) <;> (conv => whnf))
  refine BK.ne (fun f3 => ?_) (fun f3 => ?_) <;> (conv => whnf)
  · exact FK.eq (b_eq (by rw [hT]; have : (r.From == []) = false := beq_eq_false_iff_ne.2 f3
                          rw [this]; simp))
  have f3 : (r.From == []) = true := beq_iff_eq.2 f3
  repeat' ((first | (refine BK.eq (fun h => absurd (hk.symm.trans h) (by decide)) (fun _ => ?_)) | (refine BK.eq (fun _ => ?_) (fun h => absurd hk h)) | (refine BK.ne (fun _ => ?_) (fun h => absurd (hk.symm.trans h) (by decide)))) <;> (conv => whnf))
  exact FK.eq (b_eq (by rw [hT, f1, f2, f3, f5]; cases r.Yes <;> rfl))
theorem v5 {r : Rc} (hk : r.Kind = 5) : validR r = ((privR r.Private && formedP r.Seal) && (headR r && tailR r)) := by
  unfold validR
  congr 2
  cases ht : tailR r
  · simp
  · rw [tail5 hk] at ht
    simp only [Bool.and_eq_true] at ht
    have h0 : ¬ (r.Edits.length : Int) > 0 := by
      have := ht.2.2.2.2
      intro h
      rw [decide_eq_true h] at this
      cases this
    have : r.Edits = [] := List.eq_nil_of_length_eq_zero (by omega)
    rw [this]; rfl
theorem all_mono {p : Nat → Bool} {k n : Nat} (h : (List.range k).all p = true) (hn : n ≤ k) : (List.range n).all p = true :=
  List.all_eq_true.2 fun j hj => List.all_eq_true.1 h j (List.mem_range.2 (Nat.lt_of_lt_of_le (List.mem_range.1 hj) hn))
set_option maxHeartbeats 1000000 in
theorem refValid5 (r : Rc) (hr : r.wf) (hk : r.Kind = 5) : PSpec Tryz.prog 83 [.agg r.c] (.bool (validR r)) := by
  have h0 := hr.pars
  have hv := v5 hk
  refine PSpec.by Tryz.func83 rfl Tryz.ntmps83 [] rfl fun A => ?_
  (conv => whnf)
  have hH : ∀ {B : AO}, B = A → headR r = false → FK (fun v' B => v' = AV.bool (validR r) ∧ B = A) (.bool false) B := fun hB h => by
    subst hB; exact FK.eq (b_eq (by rw [hv, h]; simp))
  refine BK.is (c := false) (decide_eq_false (by omega)) ?_
  (conv => whnf)
  refine BK.is (c := false) (decide_eq_false (by omega)) ?_
  (conv => whnf)
  refine BK.dec (fun h => ?_) (fun a1 => ?_) <;> (conv => whnf)
  · exact hH rfl (by unfold headR inR; rw [decide_eq_false (show ¬ r.Author ≥ 0 by omega)]; rfl)
  refine BK.dec (fun h => ?_) (fun a2 => ?_) <;> (conv => whnf)
  · exact hH rfl (by unfold headR inR; rw [decide_eq_false (show ¬ r.Author ≤ 59 by omega)]; simp)
  refine BK.dec (fun h => ?_) (fun a3 => ?_) <;> (conv => whnf)
  · exact hH rfl (by unfold headR inR; rw [decide_eq_false (show ¬ r.Number ≥ 1 by omega)]; simp)
  refine BK.dec (fun h => ?_) (fun a4 => ?_) <;> (conv => whnf)
  · exact hH rfl (by unfold headR inR; rw [decide_eq_false (show ¬ r.Number ≤ 128 by omega)]; simp)
  refine BK.dec (fun h => ?_) (fun a5 => ?_) <;> (conv => whnf)
  · exact hH rfl (by unfold headR inR; rw [decide_eq_false (show ¬ r.Clock ≥ 1 by omega)]; simp)
  refine BK.dec (fun h => ?_) (fun a6 => ?_) <;> (conv => whnf)
  · exact hH rfl (by unfold headR inR; rw [decide_eq_false (show ¬ r.Clock ≤ 1000000 by omega)]; simp)
  refine CK.bool ent101 (refName r.Branch hr.branch) (Subs.refl _) (fun d4 => ?_) (fun d4 => ?_) <;> (conv => whnf)
  rotate_left
  · exact hH rfl (by unfold headR; rw [d4]; simp)
  refine BK.mk (fun d5 => ?_) (fun d5 => ?_) <;> (conv => whnf)
  · exact hH rfl (by unfold headR; rw [d5]; simp)
  refine CK.bool ent102 (refDigests r.Parents hr.parents) (Subs.refl _) (fun d6 => ?_) (fun d6 => ?_) <;> (conv => whnf)
  rotate_left
  · exact hH rfl (by unfold headR; rw [d6]; simp)
  refine LK.mk (ι := {k : Nat // 1 ≤ k ∧ (k ≤ r.Parents.length ∨ k = 1) ∧ (List.range k).all (strictAt r.Parents) = true}) (fun k => [(1, .lp 0 0), (3, .v (.int .i64 k.1))]) (fun _ => [r.c]) (fun _ => A) (fun k => r.Parents.length - k.1) ⟨1, by omega, .inr rfl, rfl⟩ ?_ ?_
  · exact ⟨⟨⟨rfl, rfl, Nat.le_of_ble_eq_true rfl⟩, Sub.refl _, trivial⟩, ⟨Subs.refl _, trivial⟩, AO.le.refl _⟩
  rintro ⟨k, hk1, hk2, he⟩
  (conv => whnf)
  refine BK.dec (fun h => ?_) (fun h => ?_) <;> (conv => whnf)
  · have hk' : k < r.Parents.length := by have : (k : Int) < r.Parents.length := h; omega
    have hs : strictAt r.Parents k = Op.bytesLess r.Parents[k - 1] r.Parents[k] := by
      unfold strictAt
      rw [decide_eq_false (by omega : ¬ k = 0)]
      simp [hk', (by omega : k - 1 < r.Parents.length)]
    refine IK.in64 (by dsimp only; omega) (by dsimp only; omega) ?_
    (conv => whnf)
    refine RK.mk (k - 1) _ (by dsimp only; omega) (map_get (by omega : k - 1 < r.Parents.length)) ?_
    (conv => whnf)
    refine RK.mk k _ rfl (map_get hk') ?_
    (conv => whnf)
    refine BK.is (c := !strictAt r.Parents k) (by rw [hs]) ?_
    cases hx : strictAt r.Parents k <;> (conv => whnf)
    · refine NK.mk (by kernel_rfl) ?_
      (conv => whnf)
      exact hH rfl (by unfold headR; rw [incP_eq, range_no hk' hx]; simp)
    · refine NK.mk (by kernel_rfl) ?_
      (conv => whnf)
      repeat' ((first | (refine BK.dec (fun h => ?_) (fun h => ?_)) | (refine BK.ne (fun h => ?_) (fun h => ?_)) | (refine BK.eq (fun h => ?_) (fun h => ?_)) | (refine BK.mk (fun h => ?_) (fun h => ?_)) | (refine IK.in64 (by first | omega | (dsimp only; omega)) (by first | omega | (dsimp only; omega)) ?_) | (refine NK.mk (by kernel_rfl) ?_)) <;> (conv => whnf))
      exact ⟨⟨k + 1, by omega, .inl hk', range_step he hx⟩, ⟨⟨⟨rfl, rfl, Nat.le_of_ble_eq_true rfl⟩, Sub.refl _, trivial⟩, ⟨Subs.refl _, trivial⟩, AO.le.refl _⟩, by simp; omega⟩
  · have hk' : r.Parents.length ≤ k := by have : ¬ (k : Int) < r.Parents.length := h; omega
    have hinc : incP r.Parents = true := by rw [incP_eq]; exact all_mono he hk'
    have hhead : headR r = true := by
      unfold headR inR
      rw [decide_eq_true (show r.Author ≥ 0 by omega), decide_eq_true (show r.Author ≤ 59 by omega), decide_eq_true (show r.Number ≥ 1 by omega), decide_eq_true (show r.Number ≤ 128 by omega), decide_eq_true (show r.Clock ≥ 1 by omega), decide_eq_true (show r.Clock ≤ 1000000 by omega), d4, d5, d6, hinc]; rfl
    refine CK.bool ent103 (own5 r hr hk) (Subs.refl _) (fun e1 => ?_) (fun e1 => ?_) <;> (conv => whnf)
    rotate_left
    · exact FK.eq (b_eq (by rw [hv, e1]; simp))
    refine CK.bool ent104 (refFormed r.Seal hr.se) (Subs.refl _) (fun e2 => ?_) (fun e2 => ?_) <;> (conv => whnf)
    rotate_left
    · exact FK.eq (b_eq (by rw [hv, e2]; simp))
    refine CK.bool ent105 (refPrivate r.Private hr.pv) (Subs.refl _) (fun e3 => ?_) (fun e3 => ?_) <;> (conv => whnf)
    · exact FK.eq (b_eq (by rw [hv, e1, e2, e3, hhead]; rfl))
    · exact FK.eq (b_eq (by rw [hv, e3]; rfl))
/-! ### planisphereref49 -/
abbrev reqV (r : Rc) : Bool := req validR r
theorem refRequest (r : Rc) (hr : r.wf) : PSpec Tryz.prog 58 [.agg r.c] (.bool (reqV r)) := by
  refine PSpec.by Tryz.func58 rfl Tryz.ntmps58 [] rfl fun A => ?_
  (conv => whnf)
  refine BK.eq (fun h => ?_) (fun h => ?_) <;> (conv => whnf)
  · refine CK.pure ent31 (refBare r) (Subs.refl _) ?_
    (conv => whnf)
    refine CK.pure ent83 (refValid5 r.bare (Rc.bare_wf hr) h) (Subs.refl _) ?_
    cases hv : validR r.bare <;> (conv => whnf)
    · exact FK.eq (b_eq (by unfold reqV req; rw [hv]; simp))
    · exact FK.eq (b_eq (by unfold reqV req; rw [hv, decide_eq_true (show r.Kind = 5 from h)]; rfl))
  · exact FK.eq (b_eq (by unfold reqV req; rw [decide_eq_false (show ¬ r.Kind = 5 from h)]; rfl))
def askR (l : List Rc) (n : Int) : Bool := l.any fun r => decide (r.Author = n) && reqV r
theorem any_no {α : Type} {l : List α} {p : α → Bool} {k : Nat} (h : k < l.length) (he : (l.take k).any p = false) (hp : p l[k] = false) : (l.take (k + 1)).any p = false := by
  rw [List.take_succ_eq_append_getElem h, List.any_append, he]; simp [hp]
theorem any_hit {α : Type} {l : List α} {p : α → Bool} {k : Nat} (h : k < l.length) (hp : p l[k] = true) : l.any p = true := List.any_eq_true.2 ⟨_, List.getElem_mem h, hp⟩
theorem refAsked (l : List Rc) (n : Int) (hw : LW l) : PSpec Tryz.prog 26 [rcs l, .int .i64 n] (.bool (askR l n)) := by
  have h0 := hw.len
  refine PSpec.by Tryz.func26 rfl Tryz.ntmps26 [] rfl fun A => ?_
  (conv => whnf)
  refine LK.mk (ι := {k : Nat // k ≤ l.length ∧ (l.take k).any (fun r => decide (r.Author = n) && reqV r) = false}) (fun k => [(0, .v (rcs l)), (1, .v (.int .i64 n)), (5, .v (.int .i64 k.1))]) (fun _ => []) (fun _ => A) (fun k => l.length - k.1) ⟨0, Nat.zero_le _, rfl⟩ ?_ ?_
  · exact ⟨⟨Sub.refl _, Sub.refl _, Sub.refl _, trivial⟩, trivial, AO.le.refl _⟩
  rintro ⟨k, hk, he⟩
  (conv => whnf)
  refine BK.dec (fun h => ?_) (fun h => ?_) <;> (conv => whnf)
  · have hk' : k < l.length := by have : (k : Int) < l.length := h; omega
    refine RK.mk k _ rfl (map_get hk') ?_
    (conv => whnf)
    refine BK.eq (fun h1 => ?_) (fun h1 => ?_) <;> (conv => whnf)
    · refine RK.mk k _ rfl (map_get hk') ?_
      (conv => whnf)
      refine CK.bool ent58 (refRequest l[k] (hw.one _ (List.getElem_mem hk'))) (Subs.refl _) (fun h2 => ?_) (fun h2 => ?_) <;> (conv => whnf)
      · exact FK.eq (b_eq (any_hit hk' (by rw [h2, decide_eq_true (show (l[k]).Author = n from h1)]; rfl)).symm)
      · repeat' ((first | (refine BK.dec (fun h => ?_) (fun h => ?_)) | (refine BK.ne (fun h => ?_) (fun h => ?_)) | (refine BK.eq (fun h => ?_) (fun h => ?_)) | (refine BK.mk (fun h => ?_) (fun h => ?_)) | (refine IK.in64 (by first | omega | (dsimp only; omega)) (by first | omega | (dsimp only; omega)) ?_) | (refine NK.mk (by kernel_rfl) ?_)) <;> (conv => whnf))
        exact ⟨⟨k + 1, hk', any_no hk' he (by rw [h2]; simp)⟩, ⟨⟨Sub.refl _, Sub.refl _, Sub.refl _, trivial⟩, trivial, AO.le.refl _⟩, by simp; omega⟩
    · repeat' ((first | (refine BK.dec (fun h => ?_) (fun h => ?_)) | (refine BK.ne (fun h => ?_) (fun h => ?_)) | (refine BK.eq (fun h => ?_) (fun h => ?_)) | (refine BK.mk (fun h => ?_) (fun h => ?_)) | (refine IK.in64 (by first | omega | (dsimp only; omega)) (by first | omega | (dsimp only; omega)) ?_) | (refine NK.mk (by kernel_rfl) ?_)) <;> (conv => whnf))
      exact ⟨⟨k + 1, hk', any_no hk' he (by rw [decide_eq_false (show ¬ (l[k]).Author = n from h1)]; rfl)⟩, ⟨⟨Sub.refl _, Sub.refl _, Sub.refl _, trivial⟩, trivial, AO.le.refl _⟩, by simp; omega⟩
  · have hk' : k = l.length := by have : ¬ (k : Int) < l.length := h; have : k ≤ l.length := hk; omega
    subst hk'
    rw [List.take_length] at he
    exact FK.eq (b_eq he.symm)
end Ab
end Go.Proofs.YtpcadicljkkanaaGreatDoor
