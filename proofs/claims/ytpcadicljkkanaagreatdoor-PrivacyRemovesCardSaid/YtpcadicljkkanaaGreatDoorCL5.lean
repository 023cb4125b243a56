/- PrivacyRemoves returns true. -/
import Derived.Test.YtpcadicljkkanaaGreatDoorCL4
import Derived.Test.YtpcadicljkkanaaGreatDoorC11
set_option linter.unusedVariables false
set_option linter.unusedSimpArgs false
set_option linter.unusedSectionVars false
namespace Go.Proofs.YtpcadicljkkanaaGreatDoor
namespace Ab
open Go.RowKit Go.Shelf Go.Lib
set_option maxRecDepth 10000
theorem in_has (f : Nat → Bool) (n : Int) : decide (n ∈ listed f 60) = hasP f n := by
  rw [Bool.eq_iff_iff, decide_eq_true_eq, mem_listed]
  unfold hasP
  simp only [Bool.and_eq_true, decide_eq_true_eq, and_assoc]
theorem wipe_in {f : Nat → Bool} {r : Rc} (h : decide (r.Author ∈ listed f 60) = true) : wipe f r = r.bare := by
  rw [in_has] at h; unfold wipe; rw [if_pos h]
theorem wipe_out {f : Nat → Bool} {r : Rc} (h : decide (r.Author ∈ listed f 60) = false) : wipe f r = r := by
  rw [in_has] at h; unfold wipe; rw [if_neg (by rw [h]; simp)]
theorem valid_bare {r : Rc} (h : validR r = true) : validR r.bare = true := by
  have e : validR r = ((privR r.Private && formedP r.Seal) && (headR r.bare && ((textR r.bare.Edits).2 && tailR r.bare))) := rfl
  rw [e] at h
  have e2 : validR r.bare = ((privR Pv.zero && formedP r.Seal) && (headR r.bare && ((textR r.bare.Edits).2 && tailR r.bare))) := rfl
  have e3 : privR Pv.zero = true := by kernel_rfl
  rw [e2, e3]
  simp only [Bool.and_eq_true] at h ⊢
  exact ⟨⟨trivial, h.1.2⟩, h.2⟩
theorem id_wipe {f : Nat → Bool} {r : Rc} (h : validR r = true) : idP (wipe f r) = idP r := by
  unfold wipe
  split
  · unfold idP; rw [h, valid_bare h]; rfl
  · rfl
theorem req_in {l : List Rc} {r : Rc} (hr : r ∈ l) (hk : r.Kind = 5) (hv : validR r.bare = true) : decide (r.Author ∈ forgV l) = true := by
  have F := (validR_facts hv).author
  have F : 0 ≤ r.Author ∧ r.Author ≤ 59 := F
  rw [decide_eq_true_eq]
  refine (mem_listed _ _).2 ⟨F.1, by omega, ?_⟩
  unfold mem
  rw [List.any_eq_true]
  exact ⟨r, hr, by unfold req; rw [hv]; simp [hk]; omega⟩
/-- Has one of them asked? -/
def fndB (l : List Rc) (n : Int) : Bool := l.any fun r => decide (r.Author = n) && (decide (r.Kind = 5) && validR r.bare)
theorem fnd_step {l : List Rc} {n : Int} {k : Nat} (h : k < l.length) : fndB (l.take (k + 1)) n = (fndB (l.take k) n || (decide (l[k].Author = n) && (decide (l[k].Kind = 5) && validR l[k].bare))) := by
  unfold fndB; rw [List.take_succ_eq_append_getElem h, List.any_append]; simp
theorem fnd_all {l : List Rc} {n : Int} (h : n ∈ forgV l) : fndB l n = true := by
  obtain ⟨h0, h1, h2⟩ := (mem_listed _ _).1 h
  unfold mem at h2
  rw [List.any_eq_true] at h2
  obtain ⟨r, hr, h3⟩ := h2
  unfold req at h3
  simp only [Bool.and_eq_true, decide_eq_true_eq] at h3
  unfold fndB
  rw [List.any_eq_true]
  exact ⟨r, hr, by simp only [Bool.and_eq_true, decide_eq_true_eq]; exact ⟨by omega, h3.1⟩⟩
theorem listed_lt (f : Nat → Bool) : (listed f 60).Pairwise (· < ·) := by
  unfold listed
  rw [List.pairwise_map]
  refine List.Pairwise.imp (fun h => by omega) (List.Pairwise.filter _ (List.pairwise_lt_range (n := 60)))
theorem listed_inc {f : Nat → Bool} {i : Nat} (h : i + 1 < (listed f 60).length) : (listed f 60)[i] < (listed f 60)[i + 1] := List.pairwise_iff_getElem.1 (listed_lt f) i (i + 1) (by omega) h (by omega)
theorem few_one {a : List Rc} : Sub (.os 1 none 1 [[rcs a]]) (rcss [a]) := Sub.os_sl rfl
theorem clean_len (l : List Rc) : (cleanV l).length = l.length := by show (cleanL validR l).length = _; unfold cleanL; rw [List.length_map]
theorem clean_at {l : List Rc} {k : Nat} (h : k < l.length) : ((cleanV l).map Rc.c)[k]? = some (wipe (mem validR l) l[k]).c := by
  show ((cleanL validR l).map Rc.c)[k]? = _
  unfold cleanL; simp [h]
theorem bareS (r : Rc) : ∀ {x : AV}, x = .agg [.int .i64 r.Kind, .int .i64 r.Author, .int .i64 r.Number, .int .i64 r.Clock, .str r.Branch, strs r.Parents, eds r.Edits, .str r.Target, .bool r.Yes, .int .i64 r.Order, .str r.From, .int .i64 r.Seal.Index, strs r.Seal.Sig, strs r.Seal.Path, .str [], .str [], .os 0 none 0 [], .os 0 none 0 [], .int .i64 0, .os 0 none 0 [], .os 0 none 0 []] → Sub x (.agg r.bare.c) := by
  rintro _ rfl
  refine Sub.agg ?_
  repeat' (first | exact Subs.nil | refine Subs.cons (Sub.refl _) ?_ | refine Subs.cons Sub.os_sl0 ?_)
set_option maxHeartbeats 4000000 in
theorem removes_ok (l : List Rc) (hl : LW0 l) : PSpec Tryz.prog 6 [rcs l] (.bool true) := by
  have e0 := hl.len
  refine PSpec.by Tryz.func6 rfl Tryz.ntmps6 [] rfl fun A => ?_
  (conv => whnf)
  refine CK.pure ent7 head_ok (Subs.refl _) ?_
  (conv => whnf)
  refine CK.bool ent8 (lawFew [l] (Nat.le_of_ble_eq_true rfl) (fun x hx => by rw [List.mem_singleton.1 hx]; exact hl)) (Subs.cons few_one .nil) (fun hf => ?_) (fun hf => ?_) <;> (conv => whnf)
  rotate_left
  · exact FK.eq rfl
  have hl := few_lw hf l (by simp) hl
  have l16 := fewAll_len hf l (by simp)
  refine AK.mk rfl (.inl rfl) (fun b hb => by cases hb) (rc_len l) ?_ ?_
  · show (0 + (l.map Rc.c).length) * _ ≤ 70368744177664
    rw [List.length_map]
    exact Nat.le_trans (Nat.mul_le_mul_right _ (by omega : 0 + l.length ≤ 16)) (Nat.le_of_ble_eq_true rfl)
  intro o1 A1 h1
  have hle1 : A1.le A := AO.le.trans (After.le (A := A) (ob := none) (e := 0) (fun b hb => by cases hb) h1) (tok_le (tok_fresh (A := A) (ob := none) (sz := 21) (e := 0) (fun b hb => by cases hb) (After.or h1)))
  clear h1
  (conv => whnf)
  refine CK.pure ent10 (forgV_ok l hl) (Subs.refl _) ?_
  (conv => whnf)
  refine CK.pure ent13 (cleanV_ok l hl (by omega)) (Subs.refl _) ?_
  (conv => whnf)
  refine BK.ne (fun hh => absurd (by show ((cleanV l).length : Int) = l.length; rw [clean_len]) hh) (fun _ => ?_)
  (conv => whnf)
  have hall : Sub (.os 21 o1 (0 + (l.map Rc.c).length) ([] ++ l.map Rc.c)) (rcs l) := by
    have : rcs l = .sl 21 (0 + (l.map Rc.c).length) ([] ++ l.map Rc.c) := by unfold rcs; simp
    rw [this]
    exact Sub.os_sl (by simp)
  refine CK.pure ent12 (refAll l l hl) (Subs.cons (Sub.refl _) (Subs.cons hall .nil)) ?_
  rw [decide_eq_true rfl]
  (conv => whnf)
  refine CK.pure ent13 (cleanV_ok (cleanV l) (lw_clean hl) (by rw [clean_len]; omega)) (Subs.refl _) ?_
  (conv => whnf)
  refine CK.pure ent12 (refAll (cleanV (cleanV l)) (cleanV l) (lw_clean (lw_clean hl))) (Subs.refl _) ?_
  rw [decide_eq_true (show cleanV (cleanV l) = cleanV l from clean_clean _ _)]
  (conv => whnf)
  refine LK.mk (ι := {k : Nat // k ≤ l.length}) (fun k => [(0, .v (rcs l)), (3, .v (.bool true)), (5, .v (ints (forgV l))), (6, .v (rcs (cleanV l))), (7, .v (.int .i64 k.1))]) (fun _ => []) (fun _ => A1) (fun k => l.length - k.1) ⟨0, Nat.zero_le _⟩ ?_ ?_
  · exact ⟨⟨Sub.refl _, Sub.refl _, Sub.refl _, Sub.refl _, Sub.refl _, trivial⟩, trivial, AO.le.refl _⟩
  rintro ⟨k, hk⟩
  (conv => whnf)
  refine BK.dec (fun h => ?_) (fun h => ?_) <;> (conv => whnf)
  · have hk' : k < l.length := by have : (k : Int) < l.length := h; omega
    have hw := hl.one _ (List.getElem_mem hk')
    have done : ∀ {tm : TM} {own : OW}, look tm 0 = some (.v (rcs l)) → look tm 3 = some (.v (.bool true)) → look tm 5 = some (.v (ints (forgV l))) → look tm 6 = some (.v (rcs (cleanV l))) → look tm 7 = some (.v (.int .i64 ((k : Int) + 1))) →
        ∃ j : {k : Nat // k ≤ l.length}, Le tm own A1 [(0, .v (rcs l)), (3, .v (.bool true)), (5, .v (ints (forgV l))), (6, .v (rcs (cleanV l))), (7, .v (.int .i64 j.1))] [] A1 ∧ l.length - j.1 < l.length - k := by
      intro tm own h0 h3 h5 h6 h7
      refine ⟨⟨k + 1, hk'⟩, ⟨⟨?_, ?_, ?_, ?_, ?_, trivial⟩, (by cases own <;> trivial), AO.le.refl _⟩, by simp; omega⟩
      · rw [h0]; exact Sub.refl _
      · rw [h3]; exact Sub.refl _
      · rw [h5]; exact Sub.refl _
      · rw [h6]; exact Sub.refl _
      · rw [h7]; exact Sub.refl _
    refine RK.mk k _ rfl (map_get hk') ?_
    (conv => whnf)
    refine RK.mk k _ rfl (map_get hk') ?_
    (conv => whnf)
    refine CK.bool ent18 (lawIn (forgV l) l[k].Author (listed_BL _)) (Subs.refl _) (fun hi => ?_) (fun hi => ?_) <;> (conv => whnf)
    · refine RK.mk k _ rfl (clean_at hk') ?_
      (conv => whnf)
      refine PK.mk ent19 (same_to (wipe_wf hw) (wipe_in hi)) (Subs.cons (Sub.refl _) (Subs.cons (bareS _ rfl) .nil)) ?_
      (conv => whnf)
      refine RK.mk k _ rfl (map_get hk') ?_
      (conv => whnf)
      refine PK.bool ent20 (validR_ok l[k] hw) (Subs.refl _) (fun hv => ?_) (fun hv => ?_)
      · (conv => whnf)
        refine RK.mk k _ rfl (clean_at hk') ?_
        (conv => whnf)
        refine PK.mk ent21 (id_ok (wipe (mem validR l) l[k]) (wipe_wf hw)) (Subs.refl _) ?_
        (conv => whnf)
        refine RK.mk k _ rfl (map_get hk') ?_
        (conv => whnf)
        refine PK.mk ent21 (id_ok l[k] hw) (Subs.refl _) ?_
        (conv => whnf)
        refine BK.is (c := false) (by rw [id_wipe hv]; simp) ?_
        (conv => whnf)
        refine NK.mk (by kernel_rfl) ?_
        (conv => whnf)
        refine RK.mk k _ rfl (map_get hk') ?_
        (conv => whnf)
        refine RK.mk k _ rfl (map_get hk') ?_
        (conv => whnf)
        refine BK.eq (fun h5 => ?_) (fun h5 => ?_) <;> (conv => whnf)
        · refine CK.bool ent20 (validR_ok l[k].bare (Rc.bare_wf hw)) (Subs.cons (bareS _ rfl) .nil) (fun hb => ?_) (fun hb => ?_) <;> (conv => whnf)
          · refine RK.mk k _ rfl (map_get hk') ?_
            (conv => whnf)
            refine CK.pure ent18 (lawIn (forgV l) l[k].Author (listed_BL _)) (Subs.refl _) ?_
            rw [req_in (List.getElem_mem hk') h5 hb]
            (conv => whnf)
            repeat' ((first | (refine BK.dec (fun h => ?_) (fun h => ?_)) | (refine BK.ne (fun h => ?_) (fun h => ?_)) | (refine BK.eq (fun h => ?_) (fun h => ?_)) | (refine BK.mk (fun h => ?_) (fun h => ?_)) | (refine IK.in64 (by first | omega | (dsimp only; omega)) (by first | omega | (dsimp only; omega)) ?_) | (refine NK.mk (by kernel_rfl) ?_)) <;> (conv => whnf))
            exact done rfl rfl rfl rfl rfl
          · repeat' ((first | (refine BK.dec (fun h => ?_) (fun h => ?_)) | (refine BK.ne (fun h => ?_) (fun h => ?_)) | (refine BK.eq (fun h => ?_) (fun h => ?_)) | (refine BK.mk (fun h => ?_) (fun h => ?_)) | (refine IK.in64 (by first | omega | (dsimp only; omega)) (by first | omega | (dsimp only; omega)) ?_) | (refine NK.mk (by kernel_rfl) ?_)) <;> (conv => whnf))
            exact done rfl rfl rfl rfl rfl
        · repeat' ((first | (refine BK.dec (fun h => ?_) (fun h => ?_)) | (refine BK.ne (fun h => ?_) (fun h => ?_)) | (refine BK.eq (fun h => ?_) (fun h => ?_)) | (refine BK.mk (fun h => ?_) (fun h => ?_)) | (refine IK.in64 (by first | omega | (dsimp only; omega)) (by first | omega | (dsimp only; omega)) ?_) | (refine NK.mk (by kernel_rfl) ?_)) <;> (conv => whnf))
          exact done rfl rfl rfl rfl rfl
      · (conv => whnf)
        refine NK.mk (by kernel_rfl) ?_
        (conv => whnf)
        refine RK.mk k _ rfl (map_get hk') ?_
        (conv => whnf)
        refine RK.mk k _ rfl (map_get hk') ?_
        (conv => whnf)
        refine BK.eq (fun h5 => ?_) (fun h5 => ?_) <;> (conv => whnf)
        · refine CK.bool ent20 (validR_ok l[k].bare (Rc.bare_wf hw)) (Subs.cons (bareS _ rfl) .nil) (fun hb => ?_) (fun hb => ?_) <;> (conv => whnf)
          · refine RK.mk k _ rfl (map_get hk') ?_
            (conv => whnf)
            refine CK.pure ent18 (lawIn (forgV l) l[k].Author (listed_BL _)) (Subs.refl _) ?_
            rw [req_in (List.getElem_mem hk') h5 hb]
            (conv => whnf)
            repeat' ((first | (refine BK.dec (fun h => ?_) (fun h => ?_)) | (refine BK.ne (fun h => ?_) (fun h => ?_)) | (refine BK.eq (fun h => ?_) (fun h => ?_)) | (refine BK.mk (fun h => ?_) (fun h => ?_)) | (refine IK.in64 (by first | omega | (dsimp only; omega)) (by first | omega | (dsimp only; omega)) ?_) | (refine NK.mk (by kernel_rfl) ?_)) <;> (conv => whnf))
            exact done rfl rfl rfl rfl rfl
          · repeat' ((first | (refine BK.dec (fun h => ?_) (fun h => ?_)) | (refine BK.ne (fun h => ?_) (fun h => ?_)) | (refine BK.eq (fun h => ?_) (fun h => ?_)) | (refine BK.mk (fun h => ?_) (fun h => ?_)) | (refine IK.in64 (by first | omega | (dsimp only; omega)) (by first | omega | (dsimp only; omega)) ?_) | (refine NK.mk (by kernel_rfl) ?_)) <;> (conv => whnf))
            exact done rfl rfl rfl rfl rfl
        · repeat' ((first | (refine BK.dec (fun h => ?_) (fun h => ?_)) | (refine BK.ne (fun h => ?_) (fun h => ?_)) | (refine BK.eq (fun h => ?_) (fun h => ?_)) | (refine BK.mk (fun h => ?_) (fun h => ?_)) | (refine IK.in64 (by first | omega | (dsimp only; omega)) (by first | omega | (dsimp only; omega)) ?_) | (refine NK.mk (by kernel_rfl) ?_)) <;> (conv => whnf))
          exact done rfl rfl rfl rfl rfl
    · refine RK.mk k _ rfl (clean_at hk') ?_
      (conv => whnf)
      refine PK.mk ent19 (same_to (wipe_wf hw) (wipe_out hi)) (Subs.refl _) ?_
      (conv => whnf)
      refine RK.mk k _ rfl (map_get hk') ?_
      (conv => whnf)
      refine PK.bool ent20 (validR_ok l[k] hw) (Subs.refl _) (fun hv => ?_) (fun hv => ?_)
      · (conv => whnf)
        refine RK.mk k _ rfl (clean_at hk') ?_
        (conv => whnf)
        refine PK.mk ent21 (id_ok (wipe (mem validR l) l[k]) (wipe_wf hw)) (Subs.refl _) ?_
        (conv => whnf)
        refine RK.mk k _ rfl (map_get hk') ?_
        (conv => whnf)
        refine PK.mk ent21 (id_ok l[k] hw) (Subs.refl _) ?_
        (conv => whnf)
        refine BK.is (c := false) (by rw [id_wipe hv]; simp) ?_
        (conv => whnf)
        refine NK.mk (by kernel_rfl) ?_
        (conv => whnf)
        refine RK.mk k _ rfl (map_get hk') ?_
        (conv => whnf)
        refine RK.mk k _ rfl (map_get hk') ?_
        (conv => whnf)
        refine BK.eq (fun h5 => ?_) (fun h5 => ?_) <;> (conv => whnf)
        · refine CK.bool ent20 (validR_ok l[k].bare (Rc.bare_wf hw)) (Subs.cons (bareS _ rfl) .nil) (fun hb => ?_) (fun hb => ?_) <;> (conv => whnf)
          · refine RK.mk k _ rfl (map_get hk') ?_
            (conv => whnf)
            refine CK.pure ent18 (lawIn (forgV l) l[k].Author (listed_BL _)) (Subs.refl _) ?_
            rw [req_in (List.getElem_mem hk') h5 hb]
            (conv => whnf)
            repeat' ((first | (refine BK.dec (fun h => ?_) (fun h => ?_)) | (refine BK.ne (fun h => ?_) (fun h => ?_)) | (refine BK.eq (fun h => ?_) (fun h => ?_)) | (refine BK.mk (fun h => ?_) (fun h => ?_)) | (refine IK.in64 (by first | omega | (dsimp only; omega)) (by first | omega | (dsimp only; omega)) ?_) | (refine NK.mk (by kernel_rfl) ?_)) <;> (conv => whnf))
            exact done rfl rfl rfl rfl rfl
          · repeat' ((first | (refine BK.dec (fun h => ?_) (fun h => ?_)) | (refine BK.ne (fun h => ?_) (fun h => ?_)) | (refine BK.eq (fun h => ?_) (fun h => ?_)) | (refine BK.mk (fun h => ?_) (fun h => ?_)) | (refine IK.in64 (by first | omega | (dsimp only; omega)) (by first | omega | (dsimp only; omega)) ?_) | (refine NK.mk (by kernel_rfl) ?_)) <;> (conv => whnf))
            exact done rfl rfl rfl rfl rfl
        · repeat' ((first | (refine BK.dec (fun h => ?_) (fun h => ?_)) | (refine BK.ne (fun h => ?_) (fun h => ?_)) | (refine BK.eq (fun h => ?_) (fun h => ?_)) | (refine BK.mk (fun h => ?_) (fun h => ?_)) | (refine IK.in64 (by first | omega | (dsimp only; omega)) (by first | omega | (dsimp only; omega)) ?_) | (refine NK.mk (by kernel_rfl) ?_)) <;> (conv => whnf))
          exact done rfl rfl rfl rfl rfl
      · (conv => whnf)
        refine NK.mk (by kernel_rfl) ?_
        (conv => whnf)
        refine RK.mk k _ rfl (map_get hk') ?_
        (conv => whnf)
        refine RK.mk k _ rfl (map_get hk') ?_
        (conv => whnf)
        refine BK.eq (fun h5 => ?_) (fun h5 => ?_) <;> (conv => whnf)
        · refine CK.bool ent20 (validR_ok l[k].bare (Rc.bare_wf hw)) (Subs.cons (bareS _ rfl) .nil) (fun hb => ?_) (fun hb => ?_) <;> (conv => whnf)
          · refine RK.mk k _ rfl (map_get hk') ?_
            (conv => whnf)
            refine CK.pure ent18 (lawIn (forgV l) l[k].Author (listed_BL _)) (Subs.refl _) ?_
            rw [req_in (List.getElem_mem hk') h5 hb]
            (conv => whnf)
            repeat' ((first | (refine BK.dec (fun h => ?_) (fun h => ?_)) | (refine BK.ne (fun h => ?_) (fun h => ?_)) | (refine BK.eq (fun h => ?_) (fun h => ?_)) | (refine BK.mk (fun h => ?_) (fun h => ?_)) | (refine IK.in64 (by first | omega | (dsimp only; omega)) (by first | omega | (dsimp only; omega)) ?_) | (refine NK.mk (by kernel_rfl) ?_)) <;> (conv => whnf))
            exact done rfl rfl rfl rfl rfl
          · repeat' ((first | (refine BK.dec (fun h => ?_) (fun h => ?_)) | (refine BK.ne (fun h => ?_) (fun h => ?_)) | (refine BK.eq (fun h => ?_) (fun h => ?_)) | (refine BK.mk (fun h => ?_) (fun h => ?_)) | (refine IK.in64 (by first | omega | (dsimp only; omega)) (by first | omega | (dsimp only; omega)) ?_) | (refine NK.mk (by kernel_rfl) ?_)) <;> (conv => whnf))
            exact done rfl rfl rfl rfl rfl
        · repeat' ((first | (refine BK.dec (fun h => ?_) (fun h => ?_)) | (refine BK.ne (fun h => ?_) (fun h => ?_)) | (refine BK.eq (fun h => ?_) (fun h => ?_)) | (refine BK.mk (fun h => ?_) (fun h => ?_)) | (refine IK.in64 (by first | omega | (dsimp only; omega)) (by first | omega | (dsimp only; omega)) ?_) | (refine NK.mk (by kernel_rfl) ?_)) <;> (conv => whnf))
          exact done rfl rfl rfl rfl rfl
  · refine LK.mk (ι := {i : Nat // i ≤ (forgV l).length}) (fun i => [(0, .v (rcs l)), (3, .v (.bool true)), (5, .v (ints (forgV l))), (10, .v (.int .i64 i.1))]) (fun _ => []) (fun _ => A1) (fun i => (forgV l).length - i.1) ⟨0, Nat.zero_le _⟩ ?_ ?_
    · exact ⟨⟨Sub.refl _, Sub.refl _, Sub.refl _, Sub.refl _, trivial⟩, trivial, AO.le.refl _⟩
    rintro ⟨i, hi⟩
    (conv => whnf)
    refine BK.dec (fun h => ?_) (fun h => ?_) <;> (conv => whnf)
    · have hi' : i < (forgV l).length := by have : (i : Int) < (forgV l).length := h; omega
      have hin : fndB l (forgV l)[i] = true := fnd_all (List.getElem_mem hi')
      have hB : BL (forgV l).length := listed_BL _
      refine LK.mk (ι := {k : Nat // k ≤ l.length}) (fun k => [(0, .v (rcs l)), (3, .v (.bool true)), (5, .v (ints (forgV l))), (10, .v (.int .i64 i)), (11, .v (.bool (fndB (l.take k.1) (forgV l)[i]))), (12, .v (.int .i64 k.1))]) (fun _ => []) (fun _ => A1) (fun k => l.length - k.1) ⟨0, Nat.zero_le _⟩ ?_ ?_
      · exact ⟨⟨Sub.refl _, Sub.refl _, Sub.refl _, Sub.refl _, Sub.refl _, Sub.refl _, trivial⟩, trivial, AO.le.refl _⟩
      rintro ⟨k, hk⟩
      (conv => whnf)
      refine BK.dec (fun h => ?_) (fun h => ?_) <;> (conv => whnf)
      · have hk' : k < l.length := by have : (k : Int) < l.length := h; omega
        have hw := hl.one _ (List.getElem_mem hk')
        have hs := fnd_step (n := (forgV l)[i]) hk'
        have done : ∀ {tm : TM} {own : OW} {b : Bool}, look tm 0 = some (.v (rcs l)) → look tm 3 = some (.v (.bool true)) → look tm 5 = some (.v (ints (forgV l))) → look tm 10 = some (.v (.int .i64 i)) → look tm 11 = some (.v (.bool b)) → look tm 12 = some (.v (.int .i64 ((k : Int) + 1))) → fndB (l.take (k + 1)) (forgV l)[i] = b →
            ∃ j : {k : Nat // k ≤ l.length}, Le tm own A1 [(0, .v (rcs l)), (3, .v (.bool true)), (5, .v (ints (forgV l))), (10, .v (.int .i64 i)), (11, .v (.bool (fndB (l.take j.1) (forgV l)[i]))), (12, .v (.int .i64 j.1))] [] A1 ∧ l.length - j.1 < l.length - k := by
          intro tm own b h0 h3 h5 h10 h11 h12 hb
          refine ⟨⟨k + 1, hk'⟩, ⟨⟨?_, ?_, ?_, ?_, ?_, ?_, trivial⟩, (by cases own <;> trivial), AO.le.refl _⟩, by simp; omega⟩
          · rw [h0]; exact Sub.refl _
          · rw [h3]; exact Sub.refl _
          · rw [h5]; exact Sub.refl _
          · rw [h10]; exact Sub.refl _
          · rw [h11]; exact Sub.eq (b_eq hb.symm)
          · rw [h12]; exact Sub.refl _
        refine RK.mk k _ rfl (map_get hk') ?_
        (conv => whnf)
        generalize hq : fndB (l.take (⟨k, hk⟩ : {k : Nat // k ≤ l.length}).1) (forgV l)[i] = q
        have hfd : fndB (l.take k) (forgV l)[i] = q := hq
        clear hq
        cases q <;> (conv => whnf)
        · refine RK.mk k _ rfl (map_get hk') ?_
          (conv => whnf)
          refine RK.mk i _ rfl (map_get hi') ?_
          (conv => whnf)
          refine BK.eq (fun ha => ?_) (fun ha => ?_) <;> (conv => whnf)
          · refine RK.mk k _ rfl (map_get hk') ?_
            (conv => whnf)
            refine BK.eq (fun h5 => ?_) (fun h5 => ?_) <;> (conv => whnf)
            · refine PK.bool ent20 (validR_ok l[k].bare (Rc.bare_wf hw)) (Subs.cons (bareS _ rfl) .nil) (fun hb => ?_) (fun hb => ?_) <;> (conv => whnf)
              · repeat' ((first | (refine BK.dec (fun h => ?_) (fun h => ?_)) | (refine BK.ne (fun h => ?_) (fun h => ?_)) | (refine BK.eq (fun h => ?_) (fun h => ?_)) | (refine BK.mk (fun h => ?_) (fun h => ?_)) | (refine IK.in64 (by first | omega | (dsimp only; omega)) (by first | omega | (dsimp only; omega)) ?_) | (refine NK.mk (by kernel_rfl) ?_)) <;> (conv => whnf))
                exact done rfl rfl rfl rfl rfl rfl (by rw [hs, hfd, hb]; simp [ha, h5])
              · repeat' ((first | (refine BK.dec (fun h => ?_) (fun h => ?_)) | (refine BK.ne (fun h => ?_) (fun h => ?_)) | (refine BK.eq (fun h => ?_) (fun h => ?_)) | (refine BK.mk (fun h => ?_) (fun h => ?_)) | (refine IK.in64 (by first | omega | (dsimp only; omega)) (by first | omega | (dsimp only; omega)) ?_) | (refine NK.mk (by kernel_rfl) ?_)) <;> (conv => whnf))
                exact done rfl rfl rfl rfl rfl rfl (by rw [hs, hfd, hb]; simp)
            · repeat' ((first | (refine BK.dec (fun h => ?_) (fun h => ?_)) | (refine BK.ne (fun h => ?_) (fun h => ?_)) | (refine BK.eq (fun h => ?_) (fun h => ?_)) | (refine BK.mk (fun h => ?_) (fun h => ?_)) | (refine IK.in64 (by first | omega | (dsimp only; omega)) (by first | omega | (dsimp only; omega)) ?_) | (refine NK.mk (by kernel_rfl) ?_)) <;> (conv => whnf))
              exact done rfl rfl rfl rfl rfl rfl (by rw [hs, hfd]; simp [h5])
          · repeat' ((first | (refine BK.dec (fun h => ?_) (fun h => ?_)) | (refine BK.ne (fun h => ?_) (fun h => ?_)) | (refine BK.eq (fun h => ?_) (fun h => ?_)) | (refine BK.mk (fun h => ?_) (fun h => ?_)) | (refine IK.in64 (by first | omega | (dsimp only; omega)) (by first | omega | (dsimp only; omega)) ?_) | (refine NK.mk (by kernel_rfl) ?_)) <;> (conv => whnf))
            exact done rfl rfl rfl rfl rfl rfl (by rw [hs, hfd]; simp [ha])
        · repeat' ((first | (refine BK.dec (fun h => ?_) (fun h => ?_)) | (refine BK.ne (fun h => ?_) (fun h => ?_)) | (refine BK.eq (fun h => ?_) (fun h => ?_)) | (refine BK.mk (fun h => ?_) (fun h => ?_)) | (refine IK.in64 (by first | omega | (dsimp only; omega)) (by first | omega | (dsimp only; omega)) ?_) | (refine NK.mk (by kernel_rfl) ?_)) <;> (conv => whnf))
          exact done rfl rfl rfl rfl rfl rfl (by rw [hs, hfd]; rfl)
      · have hk' : k = l.length := by have : ¬ (k : Int) < l.length := h; have : k ≤ l.length := hk; omega
        subst hk'
        rw [show fndB (l.take (⟨l.length, hk⟩ : {k : Nat // k ≤ l.length}).1) (forgV l)[i] = true from by rw [List.take_length]; exact hin]
        (conv => whnf)
        refine BK.dec (fun h0 => ?_) (fun h0 => ?_) <;> (conv => whnf)
        · have h0 : 0 < i := by have : (i : Int) > 0 := h0; omega
          obtain ⟨j, rfl⟩ : ∃ j, i = j + 1 := ⟨i - 1, by omega⟩
          have hinc := listed_inc (f := mem validR l) hi'
          refine IK.in64 (by omega) (by omega) ?_
          (conv => whnf)
          refine RK.mk j _ (by omega) (map_get (l := forgV l) (by omega)) ?_
          (conv => whnf)
          refine RK.mk (j + 1) _ rfl (map_get hi') ?_
          (conv => whnf)
          refine BK.is (c := false) (decide_eq_false (by show ¬ (listed (mem validR l) 60)[j] ≥ _; exact fun h => absurd hinc (Int.not_lt.2 h))) ?_
          (conv => whnf)
          repeat' ((first | (refine BK.dec (fun h => ?_) (fun h => ?_)) | (refine BK.ne (fun h => ?_) (fun h => ?_)) | (refine BK.eq (fun h => ?_) (fun h => ?_)) | (refine BK.mk (fun h => ?_) (fun h => ?_)) | (refine IK.in64 (by first | omega | (dsimp only; omega)) (by first | omega | (dsimp only; omega)) ?_) | (refine NK.mk (by kernel_rfl) ?_)) <;> (conv => whnf))
          exact ⟨⟨j + 1 + 1, hi'⟩, ⟨⟨Sub.refl _, Sub.refl _, Sub.refl _, Sub.refl _, trivial⟩, trivial, AO.le.refl _⟩, by simp; omega⟩
        · repeat' ((first | (refine BK.dec (fun h => ?_) (fun h => ?_)) | (refine BK.ne (fun h => ?_) (fun h => ?_)) | (refine BK.eq (fun h => ?_) (fun h => ?_)) | (refine BK.mk (fun h => ?_) (fun h => ?_)) | (refine IK.in64 (by first | omega | (dsimp only; omega)) (by first | omega | (dsimp only; omega)) ?_) | (refine NK.mk (by kernel_rfl) ?_)) <;> (conv => whnf))
          exact ⟨⟨i + 1, hi'⟩, ⟨⟨Sub.refl _, Sub.refl _, Sub.refl _, Sub.refl _, trivial⟩, trivial, AO.le.refl _⟩, by simp; omega⟩
    · exact FK.weak (Sub.refl _) hle1
end Ab
end Go.Proofs.YtpcadicljkkanaaGreatDoor
