/- The reference of privacy: forgotten members, clean lists, what is publicly the same. -/
import Derived.Test.YtpcadicljkkanaaGreatDoorCR3
set_option linter.unusedVariables false
set_option linter.unusedSimpArgs false
set_option linter.unusedSectionVars false
namespace Go.Proofs.YtpcadicljkkanaaGreatDoor
namespace Ab
open Go.RowKit Go.Shelf Go.Lib
set_option maxRecDepth 10000
theorem askR_mem (l : List Rc) (i : Nat) : askR l i = mem validR l i := by
  unfold askR mem
  congr 1; funext r
  exact Bool.and_comm _ _
theorem push_i {l : List Int} {n : Int} : (l.map fun n => [AV.int .i64 n]) ++ [[.int .i64 n]] = (l ++ [n]).map fun n => [AV.int .i64 n] := by simp
theorem refForgotten (l : List Rc) (hw : LW l) : PSpec Tryz.prog 11 [rcs l] (ints (listed (mem validR l) 60)) := by
  refine PSpec.by Tryz.func11 rfl Tryz.ntmps11 [] rfl fun A => ?_
  (conv => whnf)
  refine LK.mk (ι := {x : Option Nat × Nat // x.2 ≤ 60 ∧ ∀ b, x.1 = some b → ¬ A.mut b}) (fun x => [(0, .v (rcs l)), (3, .v (.os 1 x.1.1 (listed (mem validR l) x.1.2).length ((listed (mem validR l) x.1.2).map fun n => [AV.int .i64 n]))), (4, .v (.int .i64 x.1.2))]) (fun _ => []) (fun x => A.tok x.1.1 1 (listed (mem validR l) x.1.2).length) (fun x => 60 - x.1.2) ⟨(none, 0), by omega, by rintro b ⟨⟩⟩ ?_ ?_
  · exact ⟨⟨Sub.refl _, os_start (by rfl), Sub.refl _, trivial⟩, trivial, AO.le.refl _⟩
  rintro ⟨⟨ob, k⟩, hk, ho⟩
  (conv => whnf)
  have hlen := listed_len (mem validR l) k
  have hstep := listed_succ (mem validR l) k
  refine BK.dec (fun h => ?_) (fun h => ?_) <;> (conv => whnf)
  · have hk' : k < 60 := by have : (k : Int) < 60 := h; omega
    refine CK.pure ent26 (refAsked l k hw) (Subs.refl _) ?_
    rw [askR_mem]
    cases hm : mem validR l k <;> (conv => whnf)
    · repeat' ((first | (refine BK.dec (fun h => ?_) (fun h => ?_)) | (refine BK.ne (fun h => ?_) (fun h => ?_)) | (refine BK.eq (fun h => ?_) (fun h => ?_)) | (refine BK.mk (fun h => ?_) (fun h => ?_)) | (refine IK.in64 (by first | omega | (dsimp only; omega)) (by first | omega | (dsimp only; omega)) ?_) | (refine NK.mk (by kernel_rfl) ?_)) <;> (conv => whnf))
      rw [hm] at hstep
      exact ⟨⟨(ob, k + 1), hk', ho⟩, ⟨⟨Sub.refl _, Sub.eq (by rw [hstep]; simp), Sub.refl _, trivial⟩, trivial, by rw [hstep]; simp; exact AO.le.refl _⟩, by simp; omega⟩
    · rw [hm] at hstep
      refine AK.one (x := [.int .i64 k]) (by kernel_rfl) rfl (by simp) (.inr rfl) tok_at ?_ ?_
      · show ((listed (mem validR l) k).length + 1) * 9 ≤ 70368744177664
        omega
      intro ob' A' h'
      (conv => whnf)
      repeat' ((first | (refine BK.dec (fun h => ?_) (fun h => ?_)) | (refine BK.ne (fun h => ?_) (fun h => ?_)) | (refine BK.eq (fun h => ?_) (fun h => ?_)) | (refine BK.mk (fun h => ?_) (fun h => ?_)) | (refine IK.in64 (by first | omega | (dsimp only; omega)) (by first | omega | (dsimp only; omega)) ?_) | (refine NK.mk (by kernel_rfl) ?_)) <;> (conv => whnf))
      have hl1 : (listed (mem validR l) (k + 1)).length = (listed (mem validR l) k).length + 1 := by rw [hstep]; simp
      exact ⟨⟨(ob', k + 1), hk', tok_fresh ho (After.or h')⟩, ⟨⟨Sub.refl _, by
          rw [hl1]
          exact os_push (x := [.int .i64 k]) (by kernel_rfl) (by rw [push_i, hstep]; rfl), Sub.refl _, trivial⟩, trivial, by rw [hl1]; exact After.le ho h'⟩, by simp; omega⟩
  · have hk' : k = 60 := by have : ¬ (k : Int) < 60 := h; have : k ≤ 60 := hk; omega
    subst hk'
    exact FK.weak (Sub.os_sl (by simp)) (tok_le ho)
theorem ask_wipe (l : List Rc) (r : Rc) (hr : r ∈ l) : askR l r.Author = hasP (mem validR l) r.Author := by
  unfold hasP
  by_cases h : 0 ≤ r.Author ∧ r.Author < 60
  · obtain ⟨n, hn⟩ : ∃ n : Nat, r.Author = n := ⟨r.Author.toNat, by omega⟩
    rw [hn, askR_mem, decide_eq_true (by omega : (0 : Int) ≤ (n : Int)), decide_eq_true (by omega : (n : Int) < 60)]
    simp
  · have e : (decide (0 ≤ r.Author) && decide (r.Author < 60)) = false := by simp; omega
    rw [e, Bool.false_and]
    unfold askR
    rw [List.any_eq_false]
    intro x hx
    simp only [Bool.and_eq_true, decide_eq_true_eq, not_and]
    intro ha hq
    unfold reqV req at hq
    rw [Bool.and_eq_true] at hq
    have := VSr.dom _ hq.2
    have hb : x.bare.Author = x.Author := rfl
    omega
theorem refClean (l : List Rc) (hw : LW l) (h0 : l.length ≤ 10000) : PSpec Tryz.prog 14 [rcs l] (rcs (cleanV l)) := by
  refine PSpec.by Tryz.func14 rfl Tryz.ntmps14 [] rfl fun A => ?_
  (conv => whnf)
  refine LK.mk (ι := {x : Option Nat × Nat // x.2 ≤ l.length ∧ ∀ b, x.1 = some b → ¬ A.mut b}) (fun x => [(0, .v (rcs l)), (3, .v (.os 21 x.1.1 x.1.2 (((l.take x.1.2).map (wipe (mem validR l))).map Rc.c))), (4, .v (.int .i64 x.1.2))]) (fun _ => []) (fun x => A.tok x.1.1 21 x.1.2) (fun x => l.length - x.1.2) ⟨(none, 0), by omega, by rintro b ⟨⟩⟩ ?_ ?_
  · exact ⟨⟨Sub.refl _, os_start (by simp), Sub.refl _, trivial⟩, trivial, AO.le.refl _⟩
  rintro ⟨⟨ob, k⟩, hk, ho⟩
  (conv => whnf)
  refine BK.dec (fun h => ?_) (fun h => ?_) <;> (conv => whnf)
  · have hk' : k < l.length := by have : (k : Int) < l.length := h; omega
    have hmem : l[k] ∈ l := List.getElem_mem hk'
    refine RK.mk k _ rfl (map_get hk') ?_
    (conv => whnf)
    refine CK.pure ent26 (refAsked l (l[k]).Author hw) (Subs.refl _) ?_
    rw [ask_wipe l l[k] hmem]
    have hms := map_step (F := wipe (mem validR l)) hk'
    cases hh : hasP (mem validR l) (l[k]).Author <;> (conv => whnf)
    · have hwp : wipe (mem validR l) l[k] = l[k] := by unfold wipe; rw [hh]; rfl
      rw [hwp] at hms
      refine AK.one (x := (l[k]).c) (by kernel_rfl) rfl (by simp; omega) (.inr rfl) tok_at ?_ ?_
      · show (k + 1) * _ ≤ 70368744177664
        refine Nat.le_trans (Nat.mul_le_mul_right _ (by omega : k + 1 ≤ 10000)) (Nat.le_of_ble_eq_true rfl)
      intro ob' A' h'
      (conv => whnf)
      repeat' ((first | (refine BK.dec (fun h => ?_) (fun h => ?_)) | (refine BK.ne (fun h => ?_) (fun h => ?_)) | (refine BK.eq (fun h => ?_) (fun h => ?_)) | (refine BK.mk (fun h => ?_) (fun h => ?_)) | (refine IK.in64 (by first | omega | (dsimp only; omega)) (by first | omega | (dsimp only; omega)) ?_) | (refine NK.mk (by kernel_rfl) ?_)) <;> (conv => whnf))
      exact ⟨⟨(ob', k + 1), hk', tok_fresh ho (After.or h')⟩, ⟨⟨Sub.refl _, os_push (x := (l[k]).c) (by kernel_rfl) hms, Sub.refl _, trivial⟩, trivial, After.le ho h'⟩, by simp; omega⟩
    · have hwp : wipe (mem validR l) l[k] = (l[k]).bare := by unfold wipe; rw [hh]; rfl
      rw [hwp] at hms
      refine CK.pure ent31 (refBare l[k]) (Subs.refl _) ?_
      (conv => whnf)
      refine AK.one (x := (l[k]).bare.c) (by kernel_rfl) rfl (by simp; omega) (.inr rfl) tok_at ?_ ?_
      · show (k + 1) * _ ≤ 70368744177664
        refine Nat.le_trans (Nat.mul_le_mul_right _ (by omega : k + 1 ≤ 10000)) (Nat.le_of_ble_eq_true rfl)
      intro ob' A' h'
      (conv => whnf)
      repeat' ((first | (refine BK.dec (fun h => ?_) (fun h => ?_)) | (refine BK.ne (fun h => ?_) (fun h => ?_)) | (refine BK.eq (fun h => ?_) (fun h => ?_)) | (refine BK.mk (fun h => ?_) (fun h => ?_)) | (refine IK.in64 (by first | omega | (dsimp only; omega)) (by first | omega | (dsimp only; omega)) ?_) | (refine NK.mk (by kernel_rfl) ?_)) <;> (conv => whnf))
      exact ⟨⟨(ob', k + 1), hk', tok_fresh ho (After.or h')⟩, ⟨⟨Sub.refl _, os_push (x := (l[k]).bare.c) (by kernel_rfl) hms, Sub.refl _, trivial⟩, trivial, After.le ho h'⟩, by simp; omega⟩
  · have hk' : k = l.length := by have : ¬ (k : Int) < l.length := h; have : k ≤ l.length := hk; omega
    subst hk'
    refine FK.weak ?_ (tok_le ho)
    show Sub (.os 21 ob l.length (((l.take l.length).map (wipe (mem validR l))).map Rc.c)) (rcs (l.map (wipe (mem validR l))))
    rw [List.take_length]
    unfold rcs
    rw [List.length_map]
    exact Sub.os_sl (by simp)
theorem pub_by (a b : List Rc) : pubV a b = eqBy (pubOne (mem validR a)) a b := by
  show pubAll validR a b = _
  unfold pubAll
  cases h : eqBy (pubOne (mem validR a)) a b
  · simp
  · rw [Bool.and_true]
    refine (eqF_iff _ _ 60 0).2 fun i _ _ => ?_
    have h1 := (eqBy_iff _ _ (one_iff (mem validR a)) a b).1 h
    rw [← mem_wipe validR (mem validR a) a, ← mem_wipe validR (mem validR a) b, h1]
theorem one_ref (a : List Rc) (x y : Rc) (hx : x ∈ a) : pubOne (mem validR a) x y = (x.same y && (decide (x.Seal = y.Seal) && (askR a x.Author || decide (x = y)))) := by
  rw [ask_wipe a x hx]
  unfold pubOne Rc.pubs
  cases h1 : x.same y
  · rfl
  by_cases h2 : x.Seal = y.Seal
  · have hp : x.pubs y = true := by unfold Rc.pubs; rw [h1, decide_eq_true h2]; rfl
    have hb := (pubs_iff x y).1 hp
    have e : decide (x.Private = y.Private) = decide (x = y) := by
      rw [Bool.eq_iff_iff, decide_eq_true_eq, decide_eq_true_eq, rc_iff]
      exact ⟨fun h => ⟨hb, h⟩, fun h => h.2⟩
    rw [e, decide_eq_true h2]; simp
  · rw [decide_eq_false h2]; simp
set_option maxHeartbeats 1000000 in
theorem refPubAll (a b : List Rc) (ha : LW a) (hb : LW b) : PSpec Tryz.prog 16 [rcs a, rcs b] (.bool (pubV a b)) := by
  have h0 := ha.len
  have hpb := pub_by a b
  refine PSpec.by Tryz.func16 rfl Tryz.ntmps16 [] rfl fun A => ?_
  (conv => whnf)
  refine BK.ne (fun h => ?_) (fun h => ?_) <;> (conv => whnf)
  · exact FK.eq (b_eq (by rw [hpb]; unfold eqBy; have : ¬ a.length = b.length := by omega
                          simp [this]))
  have hl : a.length = b.length := by omega
  have hz : (a.zip b).length = a.length := by simp [hl]
  refine LK.mk (ι := {k : Nat // k ≤ a.length ∧ ((a.zip b).take k).all (fun p => pubOne (mem validR a) p.1 p.2) = true}) (fun k => [(0, .v (rcs a)), (1, .v (rcs b)), (5, .v (.int .i64 k.1))]) (fun _ => []) (fun _ => A) (fun k => a.length - k.1) ⟨0, by simp⟩ ?_ ?_
  · exact ⟨⟨Sub.refl _, Sub.refl _, Sub.refl _, trivial⟩, trivial, AO.le.refl _⟩
  rintro ⟨k, hk, he⟩
  (conv => whnf)
  refine BK.dec (fun h => ?_) (fun h => ?_) <;> (conv => whnf)
  · have hk' : k < a.length := by have : (k : Int) < a.length := h; omega
    have hkb : k < b.length := by omega
    have hx := ha.one _ (List.getElem_mem hk')
    have hzk : (a.zip b)[k]'(by omega) = (a[k], b[k]) := List.getElem_zip
    have h1 := one_ref a a[k] b[k] (List.getElem_mem hk')
    have no : pubOne (mem validR a) a[k] b[k] = false → pubV a b = false := fun hn => by
      rw [hpb]; unfold eqBy
      rw [all_not (k := k) (by omega) (by rw [hzk]; exact hn)]; simp
    refine RK.mk k _ rfl (map_get hk') ?_
    (conv => whnf)
    refine RK.mk k _ rfl (map_get hkb) ?_
    (conv => whnf)
    refine PK.bool ent36 (refPublic a[k] b[k] hx) (Subs.refl _) (fun c1 => ?_) (fun c1 => ?_) <;> (conv => whnf)
    rotate_left
    · refine NK.mk (by kernel_rfl) ?_
      (conv => whnf)
      exact FK.eq (b_eq (no (by rw [h1, c1]; rfl)).symm)
    refine RK.mk k _ rfl (map_get hk') ?_
    (conv => whnf)
    refine RK.mk k _ rfl (map_get hkb) ?_
    (conv => whnf)
    refine PK.dec ent37 (refSeal (a[k]).Seal (b[k]).Seal hx.se) (Subs.refl _) (fun c2 => ?_) (fun c2 => ?_) <;> (conv => whnf)
    rotate_left
    · refine NK.mk (by kernel_rfl) ?_
      (conv => whnf)
      exact FK.eq (b_eq (no (by rw [h1, decide_eq_false c2]; simp)).symm)
    refine RK.mk k _ rfl (map_get hk') ?_
    (conv => whnf)
    refine PK.bool ent26 (refAsked a (a[k]).Author ha) (Subs.refl _) (fun c3 => ?_) (fun c3 => ?_) <;> (conv => whnf)
    · refine NK.mk (by kernel_rfl) ?_
      (conv => whnf)
      repeat' ((first | (refine BK.dec (fun h => ?_) (fun h => ?_)) | (refine BK.ne (fun h => ?_) (fun h => ?_)) | (refine BK.eq (fun h => ?_) (fun h => ?_)) | (refine BK.mk (fun h => ?_) (fun h => ?_)) | (refine IK.in64 (by first | omega | (dsimp only; omega)) (by first | omega | (dsimp only; omega)) ?_) | (refine NK.mk (by kernel_rfl) ?_)) <;> (conv => whnf))
      exact ⟨⟨k + 1, hk', all_take_succ (by omega) he (by rw [hzk]; show pubOne _ a[k] b[k] = true; rw [h1, c1, decide_eq_true c2, c3]; rfl)⟩, ⟨⟨Sub.refl _, Sub.refl _, Sub.refl _, trivial⟩, trivial, AO.le.refl _⟩, by simp; omega⟩
    refine RK.mk k _ rfl (map_get hk') ?_
    (conv => whnf)
    refine RK.mk k _ rfl (map_get hkb) ?_
    (conv => whnf)
    refine PK.dec ent19 (refSame a[k] b[k] hx) (Subs.refl _) (fun c4 => ?_) (fun c4 => ?_) <;> (conv => whnf)
    · refine NK.mk (by kernel_rfl) ?_
      (conv => whnf)
      repeat' ((first | (refine BK.dec (fun h => ?_) (fun h => ?_)) | (refine BK.ne (fun h => ?_) (fun h => ?_)) | (refine BK.eq (fun h => ?_) (fun h => ?_)) | (refine BK.mk (fun h => ?_) (fun h => ?_)) | (refine IK.in64 (by first | omega | (dsimp only; omega)) (by first | omega | (dsimp only; omega)) ?_) | (refine NK.mk (by kernel_rfl) ?_)) <;> (conv => whnf))
      exact ⟨⟨k + 1, hk', all_take_succ (by omega) he (by rw [hzk]; show pubOne _ a[k] b[k] = true; rw [h1, c1, decide_eq_true c2, decide_eq_true c4]; simp)⟩, ⟨⟨Sub.refl _, Sub.refl _, Sub.refl _, trivial⟩, trivial, AO.le.refl _⟩, by simp; omega⟩
    · refine NK.mk (by kernel_rfl) ?_
      (conv => whnf)
      exact FK.eq (b_eq (no (by rw [h1, c3, decide_eq_false c4]; simp)).symm)
  · have hk' : k = a.length := by have : ¬ (k : Int) < a.length := h; have : k ≤ a.length := hk; omega
    refine FK.eq (b_eq ?_)
    rw [hpb]
    unfold eqBy
    rw [all_end (by omega) he]; simp [hl]
set_option maxHeartbeats 1000000 in
theorem matches_ok (a b : List Rc) (ha : LW0 a) (hb : LW0 b) : PSpec Tryz.prog 3 [rcs a, rcs b] (.bool true) := by
  refine PSpec.by Tryz.func3 rfl Tryz.ntmps3 [] rfl fun A => ?_
  (conv => whnf)
  refine CK.pure ent7 head_ok (Subs.refl _) ?_
  (conv => whnf)
  refine CK.bool ent8 (lawFew [a, b] (Nat.le_of_ble_eq_true rfl) (lw_two ha hb)) (Subs.cons few_two .nil) (fun hf => ?_) (fun hf => ?_) <;> (conv => whnf)
  rotate_left
  · exact FK.eq rfl
  have la := fewAll_len hf a (by simp)
  have ha := few_lw hf a (by simp) ha
  have hb := few_lw hf b (by simp) hb
  refine CK.pure ent10 (forgV_ok a ha) (Subs.refl _) ?_
  (conv => whnf)
  refine CK.pure ent11 (refForgotten a ha) (Subs.refl _) ?_
  (conv => whnf)
  refine CK.pure ent9 (lawSame (forgV a) (forgV a) (listed_BL _)) (Subs.refl _) ?_
  rw [decide_eq_true rfl]
  (conv => whnf)
  refine CK.pure ent13 (cleanV_ok a ha (by omega)) (Subs.refl _) ?_
  (conv => whnf)
  refine CK.pure ent14 (refClean a ha (by omega)) (Subs.refl _) ?_
  (conv => whnf)
  refine CK.pure ent12 (refAll (cleanV a) (cleanV a) (lw_clean ha)) (Subs.refl _) ?_
  rw [decide_eq_true rfl]
  (conv => whnf)
  refine CK.pure ent15 (pubV_ok a b ha hb) (Subs.refl _) ?_
  (conv => whnf)
  refine CK.pure ent16 (refPubAll a b ha hb) (Subs.refl _) ?_
  (conv => whnf)
  refine BK.is (c := true) (by simp) ?_
  (conv => whnf)
  exact FK.eq rfl
end Ab
end Go.Proofs.YtpcadicljkkanaaGreatDoor
