/- PrivacyOrder returns true. -/
import Derived.Test.YtpcadicljkkanaaGreatDoorCL3
set_option linter.unusedVariables false
set_option linter.unusedSimpArgs false
set_option linter.unusedSectionVars false
namespace Go.Proofs.YtpcadicljkkanaaGreatDoor
namespace Ab
open Go.RowKit Go.Shelf Go.Lib
set_option maxRecDepth 10000
theorem mem_rev (V : Rc → Bool) (l : List Rc) : mem V l.reverse = mem V l := funext fun i => by unfold mem; simp
theorem clean_rev (V : Rc → Bool) (l : List Rc) : cleanL V l.reverse = (cleanL V l).reverse := by unfold cleanL; rw [mem_rev, List.map_reverse]
theorem mem_app (V : Rc → Bool) (a b : List Rc) (i : Nat) : mem V (a ++ b) i = (mem V a i || mem V b i) := by unfold mem; rw [List.any_append]
theorem mem_listed (f : Nat → Bool) (n : Int) : n ∈ listed f 60 ↔ 0 ≤ n ∧ n < 60 ∧ f n.toNat = true := by
  unfold listed
  simp only [List.mem_map, List.mem_filter, List.mem_range]
  constructor
  · rintro ⟨i, ⟨h1, h2⟩, rfl⟩
    exact ⟨by omega, by omega, by simpa using h2⟩
  · rintro ⟨h1, h2, h3⟩
    exact ⟨n.toNat, ⟨by omega, h3⟩, by omega⟩
theorem both_iff (V : Rc → Bool) (a b : List Rc) (n : Int) : decide (n ∈ listed (mem V (a ++ b)) 60) = (decide (n ∈ listed (mem V a) 60) || decide (n ∈ listed (mem V b) 60)) := by
  rw [Bool.eq_iff_iff]
  simp only [Bool.or_eq_true, decide_eq_true_eq, mem_listed, mem_app]
  constructor
  · rintro ⟨h1, h2, h3 | h3⟩
    · exact .inl ⟨h1, h2, h3⟩
    · exact .inr ⟨h1, h2, h3⟩
  · rintro (⟨h1, h2, h3⟩ | ⟨h1, h2, h3⟩)
    · exact ⟨h1, h2, .inl h3⟩
    · exact ⟨h1, h2, .inr h3⟩
theorem none_false {f : Nat → Bool} (h : listed f 60 = []) : ∀ i, i < 60 → f i = false := fun i hi => by
  cases e : f i with
  | false => rfl
  | true =>
    have : (i : Int) ∈ listed f 60 := (mem_listed f i).2 ⟨by omega, by omega, by simpa using e⟩
    rw [h] at this; cases this
theorem clean_take {V : Rc → Bool} {a b : List Rc} (h : listed (mem V b) 60 = []) : (cleanL V (a ++ b)).take a.length = cleanL V a := by
  unfold cleanL
  rw [List.map_append, List.take_left' (by simp)]
  exact List.map_congr_left fun x _ => wipe_congr (fun i hi => by rw [mem_app, none_false h i hi, Bool.or_false]) x
/-! ### An append onto what is known less of -/
theorem kill_le {A B : AO} (h : A.le B) (ob : Option Nat) : (A.kill ob).le (B.kill ob) := by
  cases ob with
  | none => exact h
  | some b =>
    refine ⟨h.rows, fun p x hx => ?_, h.maps, h.tys⟩
    have hx : (if p = b then none else B.toks p) = some x := hx
    show (if p = b then none else A.toks p) = some x
    split at hx
    · cases hx
    · rename_i e; rw [if_neg e]; exact h.toks p x hx
theorem tok_mono {A B : AO} (h : A.le B) (ob : Option Nat) (sz e : Nat) : (A.tok ob sz e).le (B.tok ob sz e) := by
  cases ob with
  | none => exact h
  | some b =>
    refine ⟨h.rows, fun p x hx => ?_, h.maps, h.tys⟩
    have hx : (if p = b then some (sz, e) else B.toks p) = some x := hx
    show (if p = b then some (sz, e) else A.toks p) = some x
    split at hx
    · rename_i e; rw [if_pos e]; exact hx
    · rename_i e; rw [if_neg e]; exact h.toks p x hx
theorem setTy_mono {A B : AO} (h : A.le B) (p : Nat) (T : TypeId) : (A.setTy p T).le (B.setTy p T) := by
  refine ⟨h.rows, h.toks, h.maps, fun q x hx => ?_⟩
  have hx : (if q = p then some T else B.tys q) = some x := hx
  show (if q = p then some T else A.tys q) = some x
  split at hx
  · rename_i e; rw [if_pos e]; exact hx
  · rename_i e; rw [if_neg e]; exact h.tys q x hx
theorem After.weak {A B A' : AO} {ob ob' : Option Nat} {sz n : Nat} {T : TypeId} (h : A.le B) (k : After A ob ob' sz n T A') : ∃ B', A'.le B' ∧ After B ob ob' sz n T B' := by
  rcases k with ⟨k, rfl⟩ | ⟨p, k, hp, rfl⟩
  · exact ⟨_, tok_mono (kill_le h ob) _ _ _, .inl ⟨k, rfl⟩⟩
  · exact ⟨_, setTy_mono (tok_mono (kill_le h ob) _ _ _) _ _, .inr ⟨p, k, fun hm => hp (h.mut hm), rfl⟩⟩
theorem back_len (l : List Rc) : l.reverse.length = l.length := by simp
theorem lw_rev {l : List Rc} (h : LW l) : LW l.reverse := ⟨by rw [List.length_reverse]; exact h.len, fun r hr => h.one r (List.mem_reverse.1 hr)⟩
theorem lw_app {a b : List Rc} (h : LW a) (k : LW b) (hl : a.length + b.length ≤ 1000) : LW (a ++ b) := ⟨by rw [List.length_append]; show _ ≤ 140737488355328; omega, fun r hr => (List.mem_append.1 hr).elim (h.one r) (k.one r)⟩
theorem rc_len (l : List Rc) : ∀ r ∈ l.map Rc.c, r.length = 21 := fun r hr => by
  obtain ⟨x, _, rfl⟩ := List.mem_map.1 hr; rfl
set_option maxHeartbeats 1000000 in
theorem order_ok (a b : List Rc) (ha : LW0 a) (hb : LW0 b) : PSpec Tryz.prog 5 [rcs a, rcs b] (.bool true) := by
  have e0 := ha.len
  have e1 := hb.len
  refine PSpec.by Tryz.func5 rfl Tryz.ntmps5 [] rfl fun A => ?_
  (conv => whnf)
  refine CK.pure ent7 head_ok (Subs.refl _) ?_
  (conv => whnf)
  refine CK.bool ent8 (lawFew [a, b] (Nat.le_of_ble_eq_true rfl) (lw_two ha hb)) (Subs.cons few_two .nil) (fun hf => ?_) (fun hf => ?_) <;> (conv => whnf)
  rotate_left
  · exact FK.eq rfl
  have ha := few_lw hf a (by simp) ha
  have hb := few_lw hf b (by simp) hb
  refine BK.dec (fun la => ?_) (fun la => ?_) <;> (conv => whnf)
  · exact FK.eq rfl
  refine BK.dec (fun lb => ?_) (fun lb => ?_) <;> (conv => whnf)
  · exact FK.eq rfl
  have la : a.length ≤ 8 := by have : ¬ (a.length : Int) > 8 := la; omega
  have lb : b.length ≤ 8 := by have : ¬ (b.length : Int) > 8 := lb; omega
  refine CK.pure ent13 (cleanV_ok a ha (by omega)) (Subs.refl _) ?_
  (conv => whnf)
  refine CK.pure ent17 (lawBack a (by omega)) (Subs.refl _) ?_
  (conv => whnf)
  refine CK.pure ent13 (cleanV_ok a.reverse (lw_rev ha) (by rw [back_len]; omega)) (Subs.refl _) ?_
  (conv => whnf)
  refine CK.pure ent17 (lawBack (cleanV a) (by show (cleanL validR a).length ≤ _; unfold cleanL; rw [List.length_map]; omega)) (Subs.refl _) ?_
  (conv => whnf)
  refine CK.pure ent12 (refAll (cleanV a.reverse) (cleanV a).reverse (lw_clean (lw_rev ha))) (Subs.refl _) ?_
  rw [decide_eq_true (clean_rev validR a)]
  (conv => whnf)
  refine CK.pure ent17 (lawBack a (by omega)) (Subs.refl _) ?_
  (conv => whnf)
  refine CK.pure ent10 (forgV_ok a.reverse (lw_rev ha)) (Subs.refl _) ?_
  (conv => whnf)
  refine CK.pure ent10 (forgV_ok a ha) (Subs.refl _) ?_
  (conv => whnf)
  refine CK.pure ent9 (lawSame (forgV a.reverse) (forgV a) (listed_BL _)) (Subs.refl _) ?_
  rw [decide_eq_true (show forgV a.reverse = forgV a by show listed (mem validR a.reverse) 60 = _; rw [mem_rev])]
  (conv => whnf)
  refine AK.mk rfl (.inl rfl) (fun b hb => by cases hb) (rc_len a) ?_ ?_
  · show (0 + (a.map Rc.c).length) * _ ≤ 70368744177664
    rw [List.length_map]
    exact Nat.le_trans (Nat.mul_le_mul_right _ (by omega : 0 + a.length ≤ 8)) (Nat.le_of_ble_eq_true rfl)
  intro o1 A1 h1
  have hle1 : A1.le (A.tok o1 21 (0 + (a.map Rc.c).length)) := After.le (A := A) (ob := none) (e := 0) (fun b hb => by cases hb) h1
  have hf1 : ∀ b, o1 = some b → ¬ A.mut b := tok_fresh (A := A) (ob := none) (sz := 21) (e := 0) (fun b hb => by cases hb) (After.or h1)
  (conv => whnf)
  refine AK.mk (by show ([] ++ a.map Rc.c).length = 0 + (a.map Rc.c).length; rw [List.nil_append, Nat.zero_add]) (.inr rfl) (fun b hb => hle1.toks _ _ (tok_at b hb)) (rc_len b) ?_ ?_
  · show (0 + (a.map Rc.c).length + (b.map Rc.c).length) * _ ≤ 70368744177664
    rw [List.length_map, List.length_map]
    exact Nat.le_trans (Nat.mul_le_mul_right _ (by omega : 0 + a.length + b.length ≤ 16)) (Nat.le_of_ble_eq_true rfl)
  intro o2 A2 h2
  obtain ⟨B2, hB2, h2'⟩ := After.weak hle1 h2
  have hle2 : A2.le A := AO.le.trans hB2 (AO.le.trans (After.le hf1 h2') (tok_le (tok_fresh hf1 (After.or h2'))))
  clear hle1 hf1 h1 h2 h2' hB2
  (conv => whnf)
  refine CK.pure ent10 (forgV_ok a ha) (Subs.refl _) ?_
  (conv => whnf)
  refine CK.pure ent10 (forgV_ok b hb) (Subs.refl _) ?_
  (conv => whnf)
  have hab : a.length + b.length ≤ 1000 := by omega
  have hall : Sub (.os 21 o2 (0 + (a.map Rc.c).length + (b.map Rc.c).length) ([] ++ a.map Rc.c ++ b.map Rc.c)) (rcs (a ++ b)) := by
    have : rcs (a ++ b) = .sl 21 (0 + (a.map Rc.c).length + (b.map Rc.c).length) ([] ++ a.map Rc.c ++ b.map Rc.c) := by
      unfold rcs; simp
    rw [this]
    exact Sub.os_sl (by simp)
  refine CK.pure ent10 (forgV_ok (a ++ b) (lw_app ha hb hab)) (Subs.cons hall .nil) ?_
  (conv => whnf)
  have hm1 : ∀ n : Int, decide (n ∈ forgV (a ++ b)) = (decide (n ∈ forgV a) || decide (n ∈ forgV b)) := both_iff validR a b
  refine LK.mk (ι := {n : Int // -1 ≤ n ∧ n ≤ 61}) (fun n => [(0, .v (rcs a)), (5, .v (.bool true)), (6, .v (rcs (cleanV a))), (7, .v (rcs (a ++ b))), (8, .v (ints (forgV a))), (9, .v (ints (forgV b))), (10, .v (ints (forgV (a ++ b)))), (11, .v (.int .i64 n.1))]) (fun _ => []) (fun _ => A2) (fun n => (61 - n.1).toNat) ⟨-1, by decide, by decide⟩ ?_ ?_
  · exact ⟨⟨Sub.refl _, Sub.refl _, Sub.refl _, hall, Sub.refl _, Sub.refl _, Sub.refl _, Sub.refl _, trivial⟩, trivial, AO.le.refl _⟩
  rintro ⟨n, hn1, hn2⟩
  (conv => whnf)
  refine BK.dec (fun h => ?_) (fun h => ?_) <;> (conv => whnf)
  · have h : n ≤ 60 := h
    refine CK.pure ent18 (lawIn (forgV (a ++ b)) n (listed_BL _)) (Subs.refl _) ?_
    (conv => whnf)
    refine CK.pure ent18 (lawIn (forgV a) n (listed_BL _)) (Subs.refl _) ?_
    have hn3 : n + 1 ≤ 61 := by omega
    cases i1 : decide (n ∈ forgV a) <;> (conv => whnf)
    · refine CK.pure ent18 (lawIn (forgV b) n (listed_BL _)) (Subs.refl _) ?_
      (conv => whnf)
      refine BK.is (c := true) (by rw [hm1 n, i1]; simp) ?_
      (conv => whnf)
      repeat' ((first | (refine BK.dec (fun h => ?_) (fun h => ?_)) | (refine BK.ne (fun h => ?_) (fun h => ?_)) | (refine BK.eq (fun h => ?_) (fun h => ?_)) | (refine BK.mk (fun h => ?_) (fun h => ?_)) | (refine IK.in64 (by first | omega | (dsimp only; omega)) (by first | omega | (dsimp only; omega)) ?_) | (refine NK.mk (by kernel_rfl) ?_)) <;> (conv => whnf))
      exact ⟨⟨n + 1, by omega, hn3⟩, ⟨⟨Sub.refl _, Sub.refl _, Sub.refl _, Sub.refl _, Sub.refl _, Sub.refl _, Sub.refl _, Sub.refl _, trivial⟩, trivial, AO.le.refl _⟩, by simp; omega⟩
    · refine BK.is (c := true) (by rw [hm1 n, i1]; rfl) ?_
      (conv => whnf)
      repeat' ((first | (refine BK.dec (fun h => ?_) (fun h => ?_)) | (refine BK.ne (fun h => ?_) (fun h => ?_)) | (refine BK.eq (fun h => ?_) (fun h => ?_)) | (refine BK.mk (fun h => ?_) (fun h => ?_)) | (refine IK.in64 (by first | omega | (dsimp only; omega)) (by first | omega | (dsimp only; omega)) ?_) | (refine NK.mk (by kernel_rfl) ?_)) <;> (conv => whnf))
      exact ⟨⟨n + 1, by omega, hn3⟩, ⟨⟨Sub.refl _, Sub.refl _, Sub.refl _, Sub.refl _, Sub.refl _, Sub.refl _, Sub.refl _, Sub.refl _, trivial⟩, trivial, AO.le.refl _⟩, by simp; omega⟩
  · refine CK.pure ent13 (cleanV_ok (a ++ b) (lw_app ha hb hab) (by rw [List.length_append]; omega)) (Subs.refl _) ?_
    (conv => whnf)
    refine BK.ne (fun hh => ?_) (fun _ => ?_) <;> (conv => whnf)
    · exfalso
      have hh : ((cleanL validR (a ++ b)).length : Int) ≠ (a ++ b).length := hh
      apply hh; unfold cleanL; rw [List.length_map]
    refine BK.dec (fun h2 => ?_) (fun h2 => ?_) <;> (conv => whnf)
    · exact FK.weak (Sub.refl _) hle2
    · have h3 : forgV b = [] := List.eq_nil_of_length_eq_zero (by have : ¬ ((forgV b).length : Int) > 0 := h2; omega)
      refine NK.mk ⟨by omega, by show (a.length : Int) ≤ ((cleanL validR (a ++ b)).length : Nat); unfold cleanL; rw [List.length_map, List.length_append]; omega⟩ ?_
      (conv => whnf)
      have ht : (cleanV (a ++ b)).take a.length = cleanV a := clean_take h3
      have hs : AV.sl 21 ((a.length : Int).toNat - 0) (((((cleanV (a ++ b)).map Rc.c).take (a.length : Int).toNat)).drop 0) = rcs (cleanV a) := by
        rw [Int.toNat_natCast, List.drop_zero, ← List.map_take, ht]
        show AV.sl 21 a.length ((cleanL validR a).map Rc.c) = .sl 21 (cleanL validR a).length ((cleanL validR a).map Rc.c)
        rw [show (cleanL validR a).length = a.length by unfold cleanL; rw [List.length_map]]
      refine CK.pure ent12 (refAll (cleanV a) (cleanV a) (lw_clean ha)) (Subs.cons (Sub.eq hs) (Subs.refl _)) ?_
      rw [decide_eq_true rfl]
      (conv => whnf)
      exact FK.weak (Sub.refl _) hle2
end Ab
end Go.Proofs.YtpcadicljkkanaaGreatDoor
