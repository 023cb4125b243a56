/- PrivacyLeaves returns true. -/
import Derived.Test.YtpcadicljkkanaaGreatDoorC9
set_option linter.unusedVariables false
set_option linter.unusedSimpArgs false
set_option linter.unusedSectionVars false
namespace Go.Proofs.YtpcadicljkkanaaGreatDoor
namespace Ab
open Go.RowKit Go.Shelf Go.Lib
set_option maxRecDepth 10000
theorem pub_refl (V : Rc → Bool) (a : List Rc) : pubAll V a a = true := by rw [pub_clean]; simp
theorem pub_comm (V : Rc → Bool) (a b : List Rc) : pubAll V b a = pubAll V a b := by
  rw [pub_clean, pub_clean, Bool.eq_iff_iff, decide_eq_true_eq, decide_eq_true_eq]; exact eq_comm
theorem pub_trans {V : Rc → Bool} {a b c : List Rc} (h : pubAll V a b = true) (k : pubAll V b c = true) : pubAll V a c = true := by
  rw [pub_clean, decide_eq_true_eq] at *
  exact h.trans k
theorem pub_self (V : Rc → Bool) (a : List Rc) : pubAll V a (cleanL V a) = true := by rw [pub_clean, clean_clean]; simp
theorem listed_BL (f : Nat → Bool) : BL (listed f 60).length := Nat.le_trans (listed_len f 60) (Nat.le_of_ble_eq_true rfl)
theorem few_two {a b : List Rc} : Sub (.os 1 none 2 [[rcs a], [rcs b]]) (rcss [a, b]) := Sub.os_sl rfl
theorem few_three {a b c : List Rc} : Sub (.os 1 none 3 [[rcs a], [rcs b], [rcs c]]) (rcss [a, b, c]) := Sub.os_sl rfl
theorem lw_three {a b c : List Rc} (ha : LW0 a) (hb : LW0 b) (hc : LW0 c) : ∀ l ∈ [a, b, c], LW0 l := fun l hl => by
  simp only [List.mem_cons, List.mem_nil_iff, or_false] at hl
  rcases hl with rfl | rfl | rfl
  · exact ha
  · exact hb
  · exact hc
theorem lw_two {a b : List Rc} (ha : LW0 a) (hb : LW0 b) : ∀ l ∈ [a, b], LW0 l := fun l hl => by
  simp only [List.mem_cons, List.mem_nil_iff, or_false] at hl
  rcases hl with rfl | rfl
  · exact ha
  · exact hb
abbrev pubV := pubAll validR
abbrev cleanV := cleanL validR
abbrev forgV (l : List Rc) : List Int := listed (mem validR l) 60
theorem cleanV_ok (l : List Rc) (hw : LW l) (h0 : l.length ≤ 10000) : PSpec Tryz.prog 13 [rcs l] (rcs (cleanV l)) := clean_ok VSr l hw h0
theorem forgV_ok (l : List Rc) (hw : LW l) : PSpec Tryz.prog 10 [rcs l] (ints (forgV l)) := forgotten_ok VSr l hw
theorem pubV_ok (a b : List Rc) (ha : LW a) (hb : LW b) : PSpec Tryz.prog 15 [rcs a, rcs b] (.bool (pubV a b)) := publicAll_ok VSr a b ha hb
set_option maxHeartbeats 1000000 in
theorem leaves_ok (a b c : List Rc) (ha : LW0 a) (hb : LW0 b) (hc : LW0 c) : PSpec Tryz.prog 4 [rcs a, rcs b, rcs c] (.bool true) := by
  refine PSpec.by Tryz.func4 rfl Tryz.ntmps4 [] rfl fun A => ?_
  (conv => whnf)
  refine CK.pure ent7 head_ok (Subs.refl _) ?_
  (conv => whnf)
  refine CK.bool ent8 (lawFew [a, b, c] (Nat.le_of_ble_eq_true rfl) (lw_three ha hb hc)) (Subs.cons few_three .nil) (fun hf => ?_) (fun hf => ?_) <;> (conv => whnf)
  · have ha := few_lw hf a (by simp) ha
    have hb := few_lw hf b (by simp) hb
    have hc := few_lw hf c (by simp) hc
    have la := fewAll_len hf a (by simp)
    have lb := fewAll_len hf b (by simp)
    refine CK.pure ent15 (pubV_ok a b ha hb) (Subs.refl _) ?_
    (conv => whnf)
    refine CK.pure ent13 (cleanV_ok a ha (by omega)) (Subs.refl _) ?_
    (conv => whnf)
    refine CK.pure ent13 (cleanV_ok b hb (by omega)) (Subs.refl _) ?_
    (conv => whnf)
    refine CK.pure ent12 (refAll (cleanV a) (cleanV b) (lw_clean ha)) (Subs.refl _) ?_
    (conv => whnf)
    refine BK.is (c := true) (by rw [show pubV a b = _ from pub_clean validR a b]; simp) ?_
    (conv => whnf)
    refine CK.pure ent15 (pubV_ok b a hb ha) (Subs.refl _) ?_
    (conv => whnf)
    refine BK.is (c := true) (by rw [show pubV b a = pubV a b from pub_comm validR a b]; simp) ?_
    (conv => whnf)
    cases hab : pubV a b <;> (conv => whnf)
    · skip
      refine CK.pure ent15 (pubV_ok a a ha ha) (Subs.refl _) ?_
      rw [show pubV a a = true from pub_refl _ _]
      (conv => whnf)
      refine CK.pure ent13 (cleanV_ok a ha (by omega)) (Subs.refl _) ?_
      (conv => whnf)
      refine CK.pure ent15 (pubV_ok a (cleanV a) ha (lw_clean ha)) (Subs.refl _) ?_
      rw [show pubV a (cleanV a) = true from pub_self _ _]
      (conv => whnf)
      exact FK.eq rfl
    · have hfo : forgV a = forgV b := listed_congr (pub_mem hab)
      refine CK.pure ent10 (forgV_ok a ha) (Subs.refl _) ?_
      (conv => whnf)
      refine CK.pure ent10 (forgV_ok b hb) (Subs.refl _) ?_
      (conv => whnf)
      refine CK.pure ent9 (lawSame (forgV a) (forgV b) (listed_BL _)) (Subs.refl _) ?_
      rw [decide_eq_true hfo]
      (conv => whnf)
      refine CK.pure ent15 (pubV_ok b c hb hc) (Subs.refl _) ?_
      cases hbc : pubV b c <;> (conv => whnf)
      · skip
        refine CK.pure ent15 (pubV_ok a a ha ha) (Subs.refl _) ?_
        rw [show pubV a a = true from pub_refl _ _]
        (conv => whnf)
        refine CK.pure ent13 (cleanV_ok a ha (by omega)) (Subs.refl _) ?_
        (conv => whnf)
        refine CK.pure ent15 (pubV_ok a (cleanV a) ha (lw_clean ha)) (Subs.refl _) ?_
        rw [show pubV a (cleanV a) = true from pub_self _ _]
        (conv => whnf)
        exact FK.eq rfl
      · refine CK.pure ent15 (pubV_ok a c ha hc) (Subs.refl _) ?_
        rw [show pubV a c = true from pub_trans hab hbc]
        (conv => whnf)
        refine CK.pure ent15 (pubV_ok a a ha ha) (Subs.refl _) ?_
        rw [show pubV a a = true from pub_refl _ _]
        (conv => whnf)
        refine CK.pure ent13 (cleanV_ok a ha (by omega)) (Subs.refl _) ?_
        (conv => whnf)
        refine CK.pure ent15 (pubV_ok a (cleanV a) ha (lw_clean ha)) (Subs.refl _) ?_
        rw [show pubV a (cleanV a) = true from pub_self _ _]
        (conv => whnf)
        exact FK.eq rfl
  · exact FK.eq rfl
end Ab
end Go.Proofs.YtpcadicljkkanaaGreatDoor
