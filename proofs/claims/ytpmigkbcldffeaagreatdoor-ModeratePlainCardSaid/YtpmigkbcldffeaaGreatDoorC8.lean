/- The line of an edit. -/
import Derived.Test.YtpmigkbcldffeaaGreatDoorC7
set_option linter.unusedVariables false
set_option linter.unusedSimpArgs false
set_option linter.unusedSectionVars false
namespace Go.Proofs.YtpmigkbcldffeaaGreatDoor
namespace Ab
open Go.RowKit Go.Shelf Go.Lib
set_option maxRecDepth 10000
def wordsE (e : Ed) : List Str :=
  if e.Op = 2 then [[109, 111, 118, 101], e.Id, Lib.itoa e.At.X, Lib.itoa e.At.Y]
  else if e.Op = 3 then [[116, 97, 103], e.Id, e.Key, quoteP e.Val]
  else if e.Op = 4 then [114, 101, 102, 115] :: e.Id :: e.Refs
  else if e.Op = 5 then [[100, 114, 111, 112], e.Id]
  else if e.Op = 6 then [[115, 112, 108, 105, 116], e.Id, e.Node, e.Other]
  else [[106, 111, 105, 110], e.Id, e.Other]
/-- The line of a valid edit; its error. -/
def lineP (e : Ed) : Str × Int :=
  if e.Op = 1 then (([112, 117, 116, 32] ++ (objText e.Object).1) ++ [10], (objText e.Object).2)
  else (Lib.join (wordsE e) [32] ++ [10], 0)
structure EF (e : Ed) : Prop where
  o1 : 1 ≤ e.Op
  o7 : e.Op ≤ 7
  id : e.Op ≠ 1 → e.Id.length ≤ 24
  at_ : e.Op = 2 → 0 ≤ e.At.X ∧ e.At.X < 1048576 ∧ 0 ≤ e.At.Y ∧ e.At.Y < 1048576
  tag : e.Op = 3 → e.Key.length ≤ 24 ∧ e.Val.length ≤ 200
  refs : e.Op = 4 → e.Refs.length ≤ 2000 ∧ ∀ s ∈ e.Refs, s.length ≤ 24
  node : e.Op = 6 → e.Node.length ≤ 24 ∧ e.Other.length ≤ 24
  other : e.Op = 7 → e.Other.length ≤ 24
theorem validE_facts {e : Ed} (h : validE e = true) : EF e := by
  have nl : ∀ {s : Str}, nameP s = true → s.length ≤ 24 := fun h => nameP_len h
  unfold validE editX at h
  by_cases k1 : e.Op = 1
  · exact ⟨by omega, by omega, fun n => absurd k1 n, fun n => by omega, fun n => by omega, fun n => by omega, fun n => by omega, fun n => by omega⟩
  by_cases k2 : e.Op = 2
  · rw [if_neg k1, if_pos k2] at h
    simp only [List.all_cons, List.all_nil, Bool.and_true, Bool.and_eq_true, gridP, decide_eq_true_eq] at h
    exact ⟨by omega, by omega, fun _ => nl h.1.1, fun _ => by omega, fun n => by omega, fun n => by omega, fun n => by omega, fun n => by omega⟩
  by_cases k3 : e.Op = 3
  · rw [if_neg k1, if_neg k2, if_pos k3] at h
    simp only [List.all_cons, List.all_nil, Bool.and_true, Bool.and_eq_true, decide_eq_true_eq] at h
    exact ⟨by omega, by omega, fun _ => nl h.1.1, fun n => by omega, fun _ => ⟨nl h.1.2.1, by omega⟩, fun n => by omega, fun n => by omega, fun n => by omega⟩
  by_cases k4 : e.Op = 4
  · rw [if_neg k1, if_neg k2, if_neg k3, if_pos k4] at h
    simp only [List.all_cons, List.all_nil, Bool.and_true, Bool.and_eq_true, decide_eq_true_eq] at h
    exact ⟨by omega, by omega, fun _ => nl h.1.1, fun n => by omega, fun n => by omega, fun _ => ⟨by omega, fun s hs => nl (List.all_eq_true.1 h.1.2.2.2 s hs)⟩, fun n => by omega, fun n => by omega⟩
  by_cases k5 : e.Op = 5
  · rw [if_neg k1, if_neg k2, if_neg k3, if_neg k4, if_pos k5] at h
    simp only [List.all_cons, List.all_nil, Bool.and_true, Bool.and_eq_true, decide_eq_true_eq] at h
    exact ⟨by omega, by omega, fun _ => nl h.1, fun n => by omega, fun n => by omega, fun n => by omega, fun n => by omega, fun n => by omega⟩
  by_cases k6 : e.Op = 6
  · rw [if_neg k1, if_neg k2, if_neg k3, if_neg k4, if_neg k5, if_pos k6] at h
    simp only [List.all_cons, List.all_nil, Bool.and_true, Bool.and_eq_true, decide_eq_true_eq] at h
    exact ⟨by omega, by omega, fun _ => nl h.1.1, fun n => by omega, fun n => by omega, fun n => by omega, fun _ => ⟨nl h.1.2.1, nl h.1.2.2⟩, fun n => by omega⟩
  by_cases k7 : e.Op = 7
  · rw [if_neg k1, if_neg k2, if_neg k3, if_neg k4, if_neg k5, if_neg k6, if_pos k7] at h
    simp only [List.all_cons, List.all_nil, Bool.and_true, Bool.and_eq_true, decide_eq_true_eq] at h
    exact ⟨by omega, by omega, fun _ => nl h.1.1, fun n => by omega, fun n => by omega, fun n => by omega, fun n => by omega, fun _ => nl h.1.2⟩
  rw [if_neg k1, if_neg k2, if_neg k3, if_neg k4, if_neg k5, if_neg k6, if_neg k7] at h
  cases h
theorem Sub.slr {sz n : Nat} {rows rows' : List (List AV)} (hl : rows.length = rows'.length) (h : ∀ i (a : i < rows.length) (b : i < rows'.length), Subs rows[i] rows'[i]) : Sub (.sl sz n rows) (.sl sz n rows') := fun g V r => by
  obtain ⟨A, c, rfl, hn, hc, hq⟩ := r.inv_sl
  by_cases h0 : 0 < n
  · obtain ⟨b, o, rfl, hr⟩ := hq h0
    refine VR.mk_sl (fun i hi => ?_) (hl.symm.trans hn) hc
    have hi' : i < rows.length := by omega
    obtain ⟨L, k1, k2, k3⟩ := hr i hi'
    exact ⟨L, (h i hi' hi).cl k1, k2, k3⟩
  · have e1 : rows' = [] := List.eq_nil_of_length_eq_zero (by omega)
    have e2 : n = 0 := by omega
    subst e1; subst e2
    exact .sl0 _ _ _
theorem os_three {a b c : Str} : Sub (.os 1 none 3 [[.str a], [.str b], [.str c]]) (strs [a, b, c]) := Sub.os_sl rfl
theorem os_four {a b c d : Str} : Sub (.os 1 none 4 [[.str a], [.str b], [.str c], [.str d]]) (strs [a, b, c, d]) := Sub.os_sl rfl
theorem itoa_grid {n : Int} (h0 : 0 ≤ n) (h1 : n < 1048576) : (Lib.itoa n).length ≤ 21 := Lib.itoa_length_le n (by omega) (by omega)
theorem objText_len (o : Ob) : (objText o).1.length ≤ 20000 := by
  have hc : ∀ l : Str, (objCut l).1.length ≤ 20000 := fun l => by
    unfold objCut
    split
    · simp
    · rename_i h
      have := of_decide_eq_false h
      show l.length ≤ 20000
      omega
  unfold objText
  split
  · simp
  · split
    · exact hc _
    · split
      · simp
      · exact hc _
set_option maxHeartbeats 1000000 in
theorem line1 (e : Ed) (he : e.wf) (hk : e.Op = 1) : PSpec Tryz.prog 97 [.agg e.c] (.tup [.str (lineP e).1, .int .i64 (lineP e).2]) := by
  have hl : lineP e = (([112, 117, 116, 32] ++ (objText e.Object).1) ++ [10], (objText e.Object).2) := by unfold lineP; rw [if_pos hk]
  have ol := objText_len e.Object
  refine PSpec.by Tryz.func97 rfl Tryz.ntmps97 [] rfl fun A => ?_
  (conv => whnf)
  repeat' ((first | (refine BK.eq (fun h => absurd (hk.symm.trans h) (by decide)) (fun _ => ?_)) | (refine BK.eq (fun _ => ?_) (fun h => absurd hk h))) <;> (conv => whnf))
  refine CK.pure ent119 (objText_ok e.Object he.obj) (Subs.refl _) ?_
  (conv => whnf)
  refine NK.mk (by show 4 + _ ≤ _; omega) ?_
  (conv => whnf)
  refine NK.mk (by rw [List.length_append]; show 4 + _ + 1 ≤ _; omega) ?_
  (conv => whnf)
  exact FK.eq (by rw [hl])
set_option maxHeartbeats 1000000 in
theorem line2 (e : Ed) (he : e.wf) (F : EF e) (hk : e.Op = 2) : PSpec Tryz.prog 97 [.agg e.c] (.tup [.str (lineP e).1, .int .i64 (lineP e).2]) := by
  have hw : wordsE e = [[109, 111, 118, 101], e.Id, Lib.itoa e.At.X, Lib.itoa e.At.Y] := by unfold wordsE; rw [if_pos hk]
  have hl : lineP e = (Lib.join [[109, 111, 118, 101], e.Id, Lib.itoa e.At.X, Lib.itoa e.At.Y] [32] ++ [10], 0) := by unfold lineP; rw [if_neg (show ¬ e.Op = 1 by omega), hw]
  have fi := F.id (by omega)
  obtain ⟨g1, g2, g3, g4⟩ := F.at_ hk
  have i1 := itoa_grid g1 g2
  have i2 := itoa_grid g3 g4
  have ew : ∀ s ∈ ([[109, 111, 118, 101], e.Id, Lib.itoa e.At.X, Lib.itoa e.At.Y] : List Str), s.length ≤ 402 := fun s hs => by
    simp only [List.mem_cons, List.mem_nil_iff, or_false] at hs
    rcases hs with rfl | rfl | rfl | rfl <;> (try simp only [List.length_cons, List.length_nil]) <;> omega
  refine PSpec.by Tryz.func97 rfl Tryz.ntmps97 [] rfl fun A => ?_
  (conv => whnf)
  repeat' ((first | (refine BK.eq (fun h => absurd (hk.symm.trans h) (by decide)) (fun _ => ?_)) | (refine BK.eq (fun _ => ?_) (fun h => absurd hk h))) <;> (conv => whnf))
  refine PK.mk ent57 (itoa_ok e.At.X (by omega) (by omega)) (Subs.refl _) ?_
  (conv => whnf)
  refine PK.mk ent57 (itoa_ok e.At.Y (by omega) (by omega)) (Subs.refl _) ?_
  (conv => whnf)
  repeat' ((first | (refine BK.dec (fun h => ?_) (fun h => ?_)) | (refine BK.ne (fun h => ?_) (fun h => ?_)) | (refine BK.eq (fun h => ?_) (fun h => ?_)) | (refine BK.mk (fun h => ?_) (fun h => ?_)) | (refine IK.in64 (by first | omega | (dsimp only; omega)) (by first | omega | (dsimp only; omega)) ?_) | (refine NK.mk (by kernel_rfl) ?_)) <;> (conv => whnf))
  have ej := join_le [[109, 111, 118, 101], e.Id, Lib.itoa e.At.X, Lib.itoa e.At.Y] 32 402 ew
  have ej2 : (Lib.join [[109, 111, 118, 101], e.Id, Lib.itoa e.At.X, Lib.itoa e.At.Y] [32]).length ≤ 1000000 := Nat.le_trans ej (by simp only [List.length_cons, List.length_nil]; omega)
  refine CK.pure ent122 (join_ok [[109, 111, 118, 101], e.Id, Lib.itoa e.At.X, Lib.itoa e.At.Y] [32] (by simp only [List.length_cons, List.length_nil]; omega) (by omega)) (Subs.cons os_four (Subs.refl _)) ?_
  (conv => whnf)
  refine NK.mk (by show _ + 1 ≤ _; omega) ?_
  (conv => whnf)
  exact FK.eq (by rw [hl]; rfl)
set_option maxHeartbeats 1000000 in
theorem line3 (e : Ed) (he : e.wf) (F : EF e) (hk : e.Op = 3) : PSpec Tryz.prog 97 [.agg e.c] (.tup [.str (lineP e).1, .int .i64 (lineP e).2]) := by
  have hw : wordsE e = [[116, 97, 103], e.Id, e.Key, quoteP e.Val] := by unfold wordsE; rw [if_neg (show ¬ e.Op = 2 by omega), if_pos hk]
  have hl : lineP e = (Lib.join [[116, 97, 103], e.Id, e.Key, quoteP e.Val] [32] ++ [10], 0) := by unfold lineP; rw [if_neg (show ¬ e.Op = 1 by omega), hw]
  have fi := F.id (by omega)
  obtain ⟨g1, g2⟩ := F.tag hk
  have i1 := quote_len e.Val
  have ew : ∀ s ∈ ([[116, 97, 103], e.Id, e.Key, quoteP e.Val] : List Str), s.length ≤ 402 := fun s hs => by
    simp only [List.mem_cons, List.mem_nil_iff, or_false] at hs
    rcases hs with rfl | rfl | rfl | rfl <;> (try simp only [List.length_cons, List.length_nil]) <;> omega
  refine PSpec.by Tryz.func97 rfl Tryz.ntmps97 [] rfl fun A => ?_
  (conv => whnf)
  repeat' ((first | (refine BK.eq (fun h => absurd (hk.symm.trans h) (by decide)) (fun _ => ?_)) | (refine BK.eq (fun _ => ?_) (fun h => absurd hk h))) <;> (conv => whnf))
  refine PK.mk ent120 (quote_ok e.Val (by omega)) (Subs.refl _) ?_
  (conv => whnf)
  repeat' ((first | (refine BK.dec (fun h => ?_) (fun h => ?_)) | (refine BK.ne (fun h => ?_) (fun h => ?_)) | (refine BK.eq (fun h => ?_) (fun h => ?_)) | (refine BK.mk (fun h => ?_) (fun h => ?_)) | (refine IK.in64 (by first | omega | (dsimp only; omega)) (by first | omega | (dsimp only; omega)) ?_) | (refine NK.mk (by kernel_rfl) ?_)) <;> (conv => whnf))
  have ej := join_le [[116, 97, 103], e.Id, e.Key, quoteP e.Val] 32 402 ew
  have ej2 : (Lib.join [[116, 97, 103], e.Id, e.Key, quoteP e.Val] [32]).length ≤ 1000000 := Nat.le_trans ej (by simp only [List.length_cons, List.length_nil]; omega)
  refine CK.pure ent122 (join_ok [[116, 97, 103], e.Id, e.Key, quoteP e.Val] [32] (by simp only [List.length_cons, List.length_nil]; omega) (by omega)) (Subs.cons os_four (Subs.refl _)) ?_
  (conv => whnf)
  refine NK.mk (by show _ + 1 ≤ _; omega) ?_
  (conv => whnf)
  exact FK.eq (by rw [hl]; rfl)
set_option maxHeartbeats 1000000 in
theorem line4 (e : Ed) (he : e.wf) (F : EF e) (hk : e.Op = 4) : PSpec Tryz.prog 97 [.agg e.c] (.tup [.str (lineP e).1, .int .i64 (lineP e).2]) := by
  have hw : wordsE e = ([114, 101, 102, 115] :: e.Id :: e.Refs) := by unfold wordsE; rw [if_neg (show ¬ e.Op = 2 by omega), if_neg (show ¬ e.Op = 3 by omega), if_pos hk]
  have hl : lineP e = (Lib.join ([114, 101, 102, 115] :: e.Id :: e.Refs) [32] ++ [10], 0) := by unfold lineP; rw [if_neg (show ¬ e.Op = 1 by omega), hw]
  have fi := F.id (by omega)
  obtain ⟨g1, g2⟩ := F.refs hk
  have ew : ∀ s ∈ (([114, 101, 102, 115] :: e.Id :: e.Refs) : List Str), s.length ≤ 402 := fun s hs => by
    simp only [List.mem_cons] at hs
    rcases hs with rfl | rfl | hs
    · simp
    · omega
    · have := g2 s hs; omega
  refine PSpec.by Tryz.func97 rfl Tryz.ntmps97 [] rfl fun A => ?_
  (conv => whnf)
  repeat' ((first | (refine BK.eq (fun h => absurd (hk.symm.trans h) (by decide)) (fun _ => ?_)) | (refine BK.eq (fun _ => ?_) (fun h => absurd hk h))) <;> (conv => whnf))
  refine CK.pure ent121 (concat_ok [[[114, 101, 102, 115], e.Id], e.Refs] (by simp) (by simp) (by simp; omega)) (Subs.cons ?_ .nil) ?_
  · refine Sub.trans (Sub.os_sl rfl) ?_
    refine Sub.slr rfl (fun i a b => ?_)
    match i, a with
    | 0, _ => exact Subs.cons os_two .nil
    | 1, _ => exact Subs.refl _
  (conv => whnf)
  have ej := join_le ([114, 101, 102, 115] :: e.Id :: e.Refs) 32 402 ew
  have ej2 : (Lib.join ([114, 101, 102, 115] :: e.Id :: e.Refs) [32]).length ≤ 1000000 := Nat.le_trans ej (by simp only [List.length_cons, List.length_nil]; omega)
  refine CK.pure ent122 (join_ok ([114, 101, 102, 115] :: e.Id :: e.Refs) [32] (by simp only [List.length_cons, List.length_nil]; omega) (by omega)) (Subs.cons (Sub.eq (by show strs (List.flatten [[[114, 101, 102, 115], e.Id], e.Refs]) = _; simp)) (Subs.refl _)) ?_
  (conv => whnf)
  refine NK.mk (by show _ + 1 ≤ _; omega) ?_
  (conv => whnf)
  exact FK.eq (by rw [hl]; rfl)
set_option maxHeartbeats 1000000 in
theorem line5 (e : Ed) (he : e.wf) (F : EF e) (hk : e.Op = 5) : PSpec Tryz.prog 97 [.agg e.c] (.tup [.str (lineP e).1, .int .i64 (lineP e).2]) := by
  have hw : wordsE e = [[100, 114, 111, 112], e.Id] := by unfold wordsE; rw [if_neg (show ¬ e.Op = 2 by omega), if_neg (show ¬ e.Op = 3 by omega), if_neg (show ¬ e.Op = 4 by omega), if_pos hk]
  have hl : lineP e = (Lib.join [[100, 114, 111, 112], e.Id] [32] ++ [10], 0) := by unfold lineP; rw [if_neg (show ¬ e.Op = 1 by omega), hw]
  have fi := F.id (by omega)
  have ew : ∀ s ∈ ([[100, 114, 111, 112], e.Id] : List Str), s.length ≤ 402 := fun s hs => by
    simp only [List.mem_cons, List.mem_nil_iff, or_false] at hs
    rcases hs with rfl | rfl <;> (try simp only [List.length_cons, List.length_nil]) <;> omega
  refine PSpec.by Tryz.func97 rfl Tryz.ntmps97 [] rfl fun A => ?_
  (conv => whnf)
  repeat' ((first | (refine BK.eq (fun h => absurd (hk.symm.trans h) (by decide)) (fun _ => ?_)) | (refine BK.eq (fun _ => ?_) (fun h => absurd hk h))) <;> (conv => whnf))
  have ej := join_le [[100, 114, 111, 112], e.Id] 32 402 ew
  have ej2 : (Lib.join [[100, 114, 111, 112], e.Id] [32]).length ≤ 1000000 := Nat.le_trans ej (by simp only [List.length_cons, List.length_nil]; omega)
  refine CK.pure ent122 (join_ok [[100, 114, 111, 112], e.Id] [32] (by simp only [List.length_cons, List.length_nil]; omega) (by omega)) (Subs.cons os_two (Subs.refl _)) ?_
  (conv => whnf)
  refine NK.mk (by show _ + 1 ≤ _; omega) ?_
  (conv => whnf)
  exact FK.eq (by rw [hl]; rfl)
set_option maxHeartbeats 1000000 in
theorem line6 (e : Ed) (he : e.wf) (F : EF e) (hk : e.Op = 6) : PSpec Tryz.prog 97 [.agg e.c] (.tup [.str (lineP e).1, .int .i64 (lineP e).2]) := by
  have hw : wordsE e = [[115, 112, 108, 105, 116], e.Id, e.Node, e.Other] := by unfold wordsE; rw [if_neg (show ¬ e.Op = 2 by omega), if_neg (show ¬ e.Op = 3 by omega), if_neg (show ¬ e.Op = 4 by omega), if_neg (show ¬ e.Op = 5 by omega), if_pos hk]
  have hl : lineP e = (Lib.join [[115, 112, 108, 105, 116], e.Id, e.Node, e.Other] [32] ++ [10], 0) := by unfold lineP; rw [if_neg (show ¬ e.Op = 1 by omega), hw]
  have fi := F.id (by omega)
  obtain ⟨g1, g2⟩ := F.node hk
  have ew : ∀ s ∈ ([[115, 112, 108, 105, 116], e.Id, e.Node, e.Other] : List Str), s.length ≤ 402 := fun s hs => by
    simp only [List.mem_cons, List.mem_nil_iff, or_false] at hs
    rcases hs with rfl | rfl | rfl | rfl <;> (try simp only [List.length_cons, List.length_nil]) <;> omega
  refine PSpec.by Tryz.func97 rfl Tryz.ntmps97 [] rfl fun A => ?_
  (conv => whnf)
  repeat' ((first | (refine BK.eq (fun h => absurd (hk.symm.trans h) (by decide)) (fun _ => ?_)) | (refine BK.eq (fun _ => ?_) (fun h => absurd hk h))) <;> (conv => whnf))
  have ej := join_le [[115, 112, 108, 105, 116], e.Id, e.Node, e.Other] 32 402 ew
  have ej2 : (Lib.join [[115, 112, 108, 105, 116], e.Id, e.Node, e.Other] [32]).length ≤ 1000000 := Nat.le_trans ej (by simp only [List.length_cons, List.length_nil]; omega)
  refine CK.pure ent122 (join_ok [[115, 112, 108, 105, 116], e.Id, e.Node, e.Other] [32] (by simp only [List.length_cons, List.length_nil]; omega) (by omega)) (Subs.cons os_four (Subs.refl _)) ?_
  (conv => whnf)
  refine NK.mk (by show _ + 1 ≤ _; omega) ?_
  (conv => whnf)
  exact FK.eq (by rw [hl]; rfl)
set_option maxHeartbeats 1000000 in
theorem line7 (e : Ed) (he : e.wf) (F : EF e) (hk : e.Op = 7) : PSpec Tryz.prog 97 [.agg e.c] (.tup [.str (lineP e).1, .int .i64 (lineP e).2]) := by
  have hw : wordsE e = [[106, 111, 105, 110], e.Id, e.Other] := by unfold wordsE; rw [if_neg (show ¬ e.Op = 2 by omega), if_neg (show ¬ e.Op = 3 by omega), if_neg (show ¬ e.Op = 4 by omega), if_neg (show ¬ e.Op = 5 by omega), if_neg (show ¬ e.Op = 6 by omega)]
  have hl : lineP e = (Lib.join [[106, 111, 105, 110], e.Id, e.Other] [32] ++ [10], 0) := by unfold lineP; rw [if_neg (show ¬ e.Op = 1 by omega), hw]
  have fi := F.id (by omega)
  have g1 := F.other hk
  have ew : ∀ s ∈ ([[106, 111, 105, 110], e.Id, e.Other] : List Str), s.length ≤ 402 := fun s hs => by
    simp only [List.mem_cons, List.mem_nil_iff, or_false] at hs
    rcases hs with rfl | rfl | rfl <;> (try simp only [List.length_cons, List.length_nil]) <;> omega
  refine PSpec.by Tryz.func97 rfl Tryz.ntmps97 [] rfl fun A => ?_
  (conv => whnf)
  repeat' ((first | (refine BK.eq (fun h => absurd (hk.symm.trans h) (by decide)) (fun _ => ?_)) | (refine BK.eq (fun _ => ?_) (fun h => absurd hk h))) <;> (conv => whnf))
  have ej := join_le [[106, 111, 105, 110], e.Id, e.Other] 32 402 ew
  have ej2 : (Lib.join [[106, 111, 105, 110], e.Id, e.Other] [32]).length ≤ 1000000 := Nat.le_trans ej (by simp only [List.length_cons, List.length_nil]; omega)
  refine CK.pure ent122 (join_ok [[106, 111, 105, 110], e.Id, e.Other] [32] (by simp only [List.length_cons, List.length_nil]; omega) (by omega)) (Subs.cons os_three (Subs.refl _)) ?_
  (conv => whnf)
  refine NK.mk (by show _ + 1 ≤ _; omega) ?_
  (conv => whnf)
  exact FK.eq (by rw [hl]; rfl)
theorem line_ok (e : Ed) (he : e.wf) (hv : validE e = true) : PSpec Tryz.prog 97 [.agg e.c] (.tup [.str (lineP e).1, .int .i64 (lineP e).2]) := by
  have F := validE_facts hv
  have a := F.o1
  have b := F.o7
  by_cases k1 : e.Op = 1
  · exact line1 e he k1
  by_cases k2 : e.Op = 2
  · exact line2 e he F k2
  by_cases k3 : e.Op = 3
  · exact line3 e he F k3
  by_cases k4 : e.Op = 4
  · exact line4 e he F k4
  by_cases k5 : e.Op = 5
  · exact line5 e he F k5
  by_cases k6 : e.Op = 6
  · exact line6 e he F k6
  · exact line7 e he F (by omega)
end Ab
end Go.Proofs.YtpmigkbcldffeaaGreatDoor

/- The text of a change set; record.text. -/
namespace Go.Proofs.YtpmigkbcldffeaaGreatDoor
namespace Ab
open Go.RowKit Go.Shelf Go.Lib
set_option maxRecDepth 10000
theorem words_le {e : Ed} (F : EF e) (h : e.Op ≠ 1) : (wordsE e).length ≤ 2002 ∧ ∀ s ∈ wordsE e, s.length ≤ 402 := by
  have fi := F.id h
  have a := F.o1
  have b := F.o7
  unfold wordsE
  by_cases k2 : e.Op = 2
  · obtain ⟨g1, g2, g3, g4⟩ := F.at_ k2
    have i1 := itoa_grid g1 g2
    have i2 := itoa_grid g3 g4
    rw [if_pos k2]
    refine ⟨by simp, fun s hs => ?_⟩
    simp only [List.mem_cons, List.mem_nil_iff, or_false] at hs
    rcases hs with rfl | rfl | rfl | rfl <;> (try simp only [List.length_cons, List.length_nil]) <;> omega
  rw [if_neg k2]
  by_cases k3 : e.Op = 3
  · obtain ⟨g1, g2⟩ := F.tag k3
    have i1 := quote_len e.Val
    rw [if_pos k3]
    refine ⟨by simp, fun s hs => ?_⟩
    simp only [List.mem_cons, List.mem_nil_iff, or_false] at hs
    rcases hs with rfl | rfl | rfl | rfl <;> (try simp only [List.length_cons, List.length_nil]) <;> omega
  rw [if_neg k3]
  by_cases k4 : e.Op = 4
  · obtain ⟨g1, g2⟩ := F.refs k4
    rw [if_pos k4]
    refine ⟨by simp; omega, fun s hs => ?_⟩
    simp only [List.mem_cons] at hs
    rcases hs with rfl | rfl | hs
    · simp
    · omega
    · have := g2 s hs; omega
  rw [if_neg k4]
  by_cases k5 : e.Op = 5
  · rw [if_pos k5]
    refine ⟨by simp, fun s hs => ?_⟩
    simp only [List.mem_cons, List.mem_nil_iff, or_false] at hs
    rcases hs with rfl | rfl <;> (try simp only [List.length_cons, List.length_nil]) <;> omega
  rw [if_neg k5]
  by_cases k6 : e.Op = 6
  · obtain ⟨g1, g2⟩ := F.node k6
    rw [if_pos k6]
    refine ⟨by simp, fun s hs => ?_⟩
    simp only [List.mem_cons, List.mem_nil_iff, or_false] at hs
    rcases hs with rfl | rfl | rfl | rfl <;> (try simp only [List.length_cons, List.length_nil]) <;> omega
  · have g1 := F.other (by omega)
    rw [if_neg k6]
    refine ⟨by simp, fun s hs => ?_⟩
    simp only [List.mem_cons, List.mem_nil_iff, or_false] at hs
    rcases hs with rfl | rfl | rfl <;> (try simp only [List.length_cons, List.length_nil]) <;> omega
theorem line_len {e : Ed} (F : EF e) : (lineP e).1.length ≤ 1000010 := by
  unfold lineP
  by_cases h : e.Op = 1
  · have := objText_len e.Object
    rw [if_pos h, List.length_append, List.length_append]
    show 4 + _ + 1 ≤ _
    omega
  · obtain ⟨h1, h2⟩ := words_le F h
    have ej := join_le (wordsE e) 32 402 h2
    rw [if_neg h, List.length_append]
    show _ + 1 ≤ _
    have : (wordsE e).length * (402 + 1) ≤ 2002 * 403 := Nat.mul_le_mul_right _ h1
    omega
theorem line_ne (e : Ed) : (lineP e).1 ≠ [] := by
  unfold lineP; split <;> simp
def bodyC (l : List Ed) : Str := l.flatMap fun e => (lineP e).1
def stepBad (l : List Ed) (k : Nat) : Bool := (lineP (l.getD k .zero)).2 != 0 || decide (((bodyC (l.take (k + 1))).length : Int) > 20000)
def textC (l : List Ed) : Str × Int :=
  match validC l with
  | false => ([], 1)
  | true => match (List.range l.length).any (stepBad l) with
    | true => ([], 2)
    | false => (bodyC l, 0)
theorem body_step {l : List Ed} {k : Nat} (h : k < l.length) : bodyC (l.take (k + 1)) = bodyC (l.take k) ++ (lineP l[k]).1 := by
  unfold bodyC; rw [List.take_succ_eq_append_getElem h, List.flatMap_append]; simp
theorem body_ne {l : List Ed} {k : Nat} (h : k < l.length) : bodyC (l.take (k + 1)) ≠ [] := by
  rw [body_step h]
  intro e
  exact line_ne _ (List.append_eq_nil_iff.1 e).2
theorem bodyC_len {l : List Ed} {k : Nat} (hk : k ≤ l.length) (h : (List.range k).any (stepBad l) = false) : (bodyC (l.take k)).length ≤ 20000 := by
  cases k with
  | zero => simp [bodyC]
  | succ k =>
    have := List.any_eq_false.1 h k (List.mem_range.2 (Nat.lt_succ_self k))
    unfold stepBad at this
    simp only [Bool.or_eq_true, not_or, decide_eq_true_eq] at this
    omega
theorem validC_facts {l : List Ed} (h : validC l = true) : 0 < l.length ∧ l.length ≤ 200 ∧ ∀ e ∈ l, validE e = true := by
  unfold validC at h
  simp only [Bool.and_eq_true, decide_eq_true_eq] at h
  exact ⟨by omega, by omega, List.all_eq_true.1 h.2.2⟩
set_option maxHeartbeats 1000000 in
theorem textC_ok (l : List Ed) (hl : BL l.length) (hw : ∀ e ∈ l, e.wf) : PSpec Tryz.prog 79 [eds l] (.tup [.str (textC l).1, .int .i64 (textC l).2]) := by
  refine PSpec.by Tryz.func79 rfl Tryz.ntmps79 [4] rfl fun A => ?_
  (conv => whnf)
  refine CK.bool ent96 (validC_ok l hl hw) (Subs.refl _) (fun hv => ?_) (fun hv => ?_) <;> (conv => whnf)
  · obtain ⟨hpos, h200, hall⟩ := validC_facts hv
    refine HK.mk fun p hp => ?_
    (conv => whnf)
    refine LK.mk (ι := {x : Option Nat × Nat // x.2 ≤ l.length ∧ BI A p x.1 (bodyC (l.take x.2)) ∧ (List.range x.2).any (stepBad l) = false}) (fun x => [(4, .v (.gp p 0)), (12, .v (eds l)), (13, .v (.int .i64 l.length)), (14, .v (.int .i64 x.1.2))]) (fun _ => []) (fun x => A.bl p 108 (if x.1.2 = 0 then .nilp else .gp p 0) (if x.1.2 = 0 then 0 else 1) (bodyC (l.take x.1.2)) x.1.1) (fun x => l.length - x.1.2) ⟨(none, 0), Nat.zero_le _, by simpa [bodyC] using BI.zero, rfl⟩ ?_ ?_
    · exact ⟨⟨Sub.refl _, Sub.refl _, Sub.refl _, Sub.refl _, trivial⟩, trivial, AO.le.refl _⟩
    rintro ⟨⟨ob, k⟩, hk, hB, hbad⟩
    have hbl := bodyC_len hk hbad
    (conv => whnf)
    refine BK.dec (fun h => ?_) (fun h => ?_) <;> (conv => whnf)
    · have hk' : k < l.length := by have : (k : Int) < l.length := h; omega
      have hE := hall _ (List.getElem_mem hk')
      have hll := line_len (validE_facts hE)
      have hstep : stepBad l k = ((lineP l[k]).2 != 0 || decide (((bodyC (l.take k) ++ (lineP l[k]).1).length : Int) > 20000)) := by
        unfold stepBad; rw [body_step hk']; simp [hk']
      refine RK.mk k _ rfl (map_get hk') ?_
      (conv => whnf)
      refine CK.pure ent97 (line_ok l[k] (hw _ (List.getElem_mem hk')) hE) (Subs.refl _) ?_
      (conv => whnf)
      refine CK.mk ent56 (ws_ok p 108 (if k = 0 then .nilp else .gp p 0) (if k = 0 then 0 else 1) (bodyC (l.take k)) (lineP l[k]).1 ob A bld_self (by by_cases e : k = 0; left; simp [e]; right; simp [e]) (by by_cases e : k = 0; left; simp [e, bodyC]; right; simp [e]) hB (by simp only at hbl; omega)) (Subs.refl _) ?_
      rintro _ _ ⟨rfl, ob', hB', rfl⟩
      (conv => whnf)
      have no : stepBad l k = true → FK (fun v' B => v' = AV.tup [.str (textC l).1, .int .i64 (textC l).2] ∧ B = A) (.tup [.str [], .int .i64 2]) (A.bl p 108 (.gp p 0) 1 (bodyC (l.take k) ++ (lineP l[k]).1) ob') := fun hs => by
        refine FK.weak (Sub.eq ?_) (bl_le hp hB'.fresh)
        unfold textC
        rw [hv, any_yes hk' hs]
      refine BK.mk (fun h1 => ?_) (fun h1 => ?_) <;> (conv => whnf)
      · exact no (by rw [hstep, h1]; rfl)
      · refine CK.mk ent98 (bl_len p 108 (.gp p 0) 1 (bodyC (l.take k) ++ (lineP l[k]).1) ob' A) (Subs.refl _) ?_
        rintro _ _ ⟨rfl, rfl⟩
        (conv => whnf)
        refine BK.mk (fun h2 => ?_) (fun h2 => ?_) <;> (conv => whnf)
        · exact no (by rw [hstep, h1, h2]; rfl)
        · repeat' ((first | (refine BK.dec (fun h => ?_) (fun h => ?_)) | (refine BK.ne (fun h => ?_) (fun h => ?_)) | (refine BK.eq (fun h => ?_) (fun h => ?_)) | (refine BK.mk (fun h => ?_) (fun h => ?_)) | (refine IK.in64 (by first | omega | (dsimp only; omega)) (by first | omega | (dsimp only; omega)) ?_) | (refine NK.mk (by kernel_rfl) ?_)) <;> (conv => whnf))
          exact ⟨⟨(ob', k + 1), hk', by rw [body_step hk']; exact hB', any_step hbad (by rw [hstep, h1, h2]; rfl)⟩, ⟨⟨Sub.refl _, Sub.refl _, Sub.refl _, Sub.refl _, trivial⟩, trivial, by
            show (A.bl p 108 (.gp p 0) 1 (bodyC (l.take k) ++ (lineP l[k]).1) ob').le (A.bl p 108 (.gp p 0) 1 (bodyC (l.take (k + 1))) ob')
            rw [body_step hk']; exact AO.le.refl _⟩, by simp; omega⟩
    · have hk' : k = l.length := by have : ¬ (k : Int) < l.length := h; have : k ≤ l.length := hk; omega
      subst hk'
      have hne : bodyC l ≠ [] := by
        have := body_ne (l := l) (k := l.length - 1) (by omega)
        rwa [show l.length - 1 + 1 = l.length by omega, List.take_length] at this
      have hB2 : BI A p ob (bodyC l) := by simpa [List.take_length] using hB
      have hbl2 : (bodyC l).length ≤ 20000 := by simpa [List.take_length] using hbl
      obtain ⟨b, rfl⟩ : ∃ b, ob = some b := by
        cases ob with
        | none => exact absurd (hB2.nil rfl) hne
        | some b => exact ⟨b, rfl⟩
      refine CK.mkA (A0 := A.bl p 108 (.gp p 0) 1 (bodyC l) (some b)) (by show A.bl p _ (if l.length = 0 then _ else _) (if l.length = 0 then _ else _) (bodyC (l.take l.length)) (some b) = _; rw [List.take_length, if_neg (by omega), if_neg (by omega)]) ent59 (string_ok p b 108 (.gp p 0) (bodyC l) A hne (hB2.ne b rfl) (by omega)) (Subs.refl _) ?_
      rintro _ _ ⟨rfl, rfl⟩
      (conv => whnf)
      refine FK.weak (Sub.eq ?_) (bl_le hp hB2.fresh)
      unfold textC
      rw [hv, show (List.range l.length).any (stepBad l) = false from hbad]; rfl
  · exact FK.eq (by unfold textC; rw [hv]; rfl)
/-- The text of edits, empty without edits; whether it is good. -/
def textR (l : List Ed) : Str × Bool :=
  match l with
  | [] => ([], true)
  | _ => ((textC l).1, (textC l).2 == 0)
theorem textR_ok (l : List Ed) (hl : BL l.length) (hw : ∀ e ∈ l, e.wf) : PSpec Tryz.prog 50 [eds l] (.tup [.str (textR l).1, .bool (textR l).2]) := by
  refine PSpec.by Tryz.func50 rfl Tryz.ntmps50 [] rfl fun A => ?_
  (conv => whnf)
  refine BK.eq (fun h => ?_) (fun h => ?_) <;> (conv => whnf)
  · have : l = [] := List.eq_nil_of_length_eq_zero (by have : (l.length : Int) = 0 := h; omega)
    subst this
    exact FK.eq rfl
  · have hne : l ≠ [] := by rintro rfl; exact h rfl
    have hR : textR l = ((textC l).1, (textC l).2 == 0) := by
      cases l with
      | nil => exact absurd rfl hne
      | cons e r => rfl
    refine CK.pure ent79 (textC_ok l hl hw) (Subs.refl _) ?_
    (conv => whnf)
    refine BK.mk (fun h => ?_) (fun h => ?_) <;> (conv => whnf)
    · exact FK.eq (by rw [hR, h])
    · exact FK.eq (by rw [hR, h])
end Ab
end Go.Proofs.YtpmigkbcldffeaaGreatDoor

/- record.Valid. -/
namespace Go.Proofs.YtpmigkbcldffeaaGreatDoor
namespace Ab
open Go.RowKit Go.Shelf Go.Lib
set_option maxRecDepth 10000
def inR (n lo hi : Int) : Bool := decide (n ≥ lo) && decide (n ≤ hi)
/-- What a private part must be. -/
def privR (p : Pv) : Bool := !(p.Trace.any offP) && ([p.Name, p.Reason].all shortP && (p.Sources.all shortP && (!decide ((p.Sources.length : Int) > 16) && (!decide ((p.Trace.length : Int) > 200) && formedP p.Seal))))
def incP (l : List Str) : Bool := sortedP l && apartP l
def headR (r : Rc) : Bool := inR r.Author 0 59 && (inR r.Number 1 128 && (inR r.Clock 1 1000000 && (nameP r.Branch && (!decide ((r.Parents.length : Int) > 16) && (r.Parents.all isP && incP r.Parents)))))
/-- What a record has of target, yes, order, from, edits, by its kind. -/
def wantR (r : Rc) : Option (Str × Bool × Int × Str × Bool) :=
  if r.Kind = 1 then some ([], false, 0, [], true)
  else if r.Kind = 2 then some (r.Target, r.Yes, 0, [], false)
  else if r.Kind = 3 then match inR r.Order 1 4 with
    | true => some (r.Target, false, r.Order, [], r.Order == 3)
    | false => none
  else if r.Kind = 4 then match nameP r.From && !(r.From == r.Branch) with
    | true => some ([], false, 0, r.From, false)
    | false => none
  else if r.Kind = 5 then some ([], false, 0, [], false)
  else none
def tailR (r : Rc) : Bool :=
  match wantR r with
  | none => false
  | some (t, y, o, f, e) => (r.Target == t) && ((r.Yes == y) && ((r.Order == o) && ((r.From == f) && ((decide ((r.Edits.length : Int) > 0) == e) && (!(decide (r.Kind = 2) || decide (r.Kind = 3)) || isP t)))))
def validR (r : Rc) : Bool := (privR r.Private && formedP r.Seal) && (headR r && ((textR r.Edits).2 && tailR r))
theorem rowAt_le {A : AO} {p q : Nat} {e e' : TypeId} {cs ds es : List AV} (h : ¬ A.mut p) (k : ¬ ((A.setTy p e).setRow p cs).mut q) : (((((A.setTy p e).setRow p cs).setTy q e').setRow q ds).setRow q es).le A :=
  AO.le.trans (setRow2_le k) (setRow_le h)
theorem setRow_same {A : AO} {p : Nat} {cs ds : List AV} : (A.setRow p ds).setRow p cs = A.setRow p cs :=
  AO.ext' (fun q => by show (if q = p then _ else if q = p then _ else _) = (if q = p then _ else _); split <;> rfl) (fun _ => rfl) (fun _ => rfl) (fun _ => rfl)
set_option maxHeartbeats 4000000 in
theorem validR_ok (r : Rc) (hr : r.wf) : PSpec Tryz.prog 26 [.agg r.c] (.bool (validR r)) := by
  have w1 := hr.pv
  have h16 := hr.parents.1
  have w2 : BL r.Private.Trace.length := w1.trace
  refine PSpec.byE Tryz.func26 rfl Tryz.ntmps26 [3] [47, 46] rfl fun A => ?_
  (conv => whnf)
  refine HK.mk fun p hp => ?_
  (conv => whnf)
  refine GK.mk _ setRow_at ?_
  (conv => whnf)
  obtain ⟨A1, hA1⟩ : ∃ A1, A1 = ((A.setTy p 86).setRow p [.fn (.func 38) [] []]) := ⟨_, rfl⟩
  have hrow : A1.rows p = some [.fn (.func 38) [] []] := by rw [hA1]; exact setRow_at
  have hle : A1.le A := by rw [hA1]; exact setRow_le hp
  have hP : ∀ {B : AO}, B.le A → (privR r.Private && formedP r.Seal) = false → FK (fun v' B => v' = AV.bool (validR r) ∧ B = A) (.bool false) B := fun hB h => FK.weak (Sub.eq (b_eq (by unfold validR; rw [h]; rfl))) hB
  have hH : ∀ {B : AO}, B.le A → headR r = false → FK (fun v' B => v' = AV.bool (validR r) ∧ B = A) (.bool false) B := fun hB h => FK.weak (Sub.eq (b_eq (by unfold validR; rw [h]; simp))) hB
  refine CK.mkA (A0 := A1) (by rw [hA1]; exact setRow_same) ent42 (containsPp r.Private.Trace w2 _ [.gp p 0] offP A1 ent43 (fun s _ => off_ok s p A1 hrow)) (Subs.refl _) ?_
  rintro _ B0 ⟨rfl, hB0⟩
  rw [hB0]
  clear hB0
  cases c1 : r.Private.Trace.any offP <;> (conv => whnf)
  · refine CK.bool ent39 (short_ok [r.Private.Name, r.Private.Reason] (by simp)) (Subs.cons os_two .nil) (fun c2 => ?_) (fun c2 => ?_) <;> (conv => whnf)
    · refine CK.bool ent39 (short_ok r.Private.Sources w1.sources.1) (Subs.refl _) (fun c3 => ?_) (fun c3 => ?_) <;> (conv => whnf)
      · refine BK.mk (fun c4 => ?_) (fun c4 => ?_) <;> (conv => whnf)
        · exact hP hle (by unfold privR; rw [c4]; simp)
        · refine BK.mk (fun c5 => ?_) (fun c5 => ?_) <;> (conv => whnf)
          · exact hP hle (by unfold privR; rw [c5]; simp)
          · refine CK.bool ent44 (formed_ok r.Private.Seal w1.se) (Subs.refl _) (fun c6 => ?_) (fun c6 => ?_) <;> (conv => whnf)
            · refine CK.bool ent44 (formed_ok r.Seal hr.se) (Subs.refl _) (fun c7 => ?_) (fun c7 => ?_) <;> (conv => whnf)
              · have hpriv : (privR r.Private && formedP r.Seal) = true := by unfold privR; rw [c1, c2, c3, c4, c5, c6, c7]; rfl
                refine PK.bool ent45 (sorted_ok r.Parents h16) (Subs.refl _) (fun s1 => ?_) (fun s1 => ?_) <;> (conv => whnf)
                · refine NK.mk (by kernel_rfl) ?_
                  (conv => whnf)
                  refine CK.mk ent47 (clone_ok r.Parents hr.pars A1) (Subs.refl _) ?_
                  rintro v B (⟨hn, rfl, hB1⟩ | ⟨q, row, hn, hq, hrw, hrl, rfl, hB1⟩)
                  · rw [hB1]
                    clear hB1
                    (conv => whnf)
                    refine CK.mk ent46 (compact_nil A1) (Subs.refl _) ?_
                    rintro v B ⟨rfl, hB2⟩
                    have hB : B.le A := by rw [hB2]; exact hle
                    have hBr : B.rows p = some [.fn (.func 38) [] []] := by rw [hB2]; exact hrow
                    clear hB2
                    (conv => whnf)
                    refine BK.is (c := true) (by rw [hn]; rfl) ?_
                    (conv => whnf)
                    have hinc : incP r.Parents = true := by rw [hn]; rfl
                    refine GK.mk _ hBr ?_
                    (conv => whnf)
                    refine CK.bool ent38 (within_ok r.Author 0 59) (Subs.refl _) (fun d1 => ?_) (fun d1 => ?_) <;> (conv => whnf)
                    rotate_left
                    · exact hH hB (by unfold headR inR; rw [d1]; rfl)
                    refine GK.mk _ hBr ?_
                    (conv => whnf)
                    refine CK.bool ent38 (within_ok r.Number 1 128) (Subs.refl _) (fun d2 => ?_) (fun d2 => ?_) <;> (conv => whnf)
                    rotate_left
                    · exact hH hB (by unfold headR inR; rw [d2]; simp)
                    refine GK.mk _ hBr ?_
                    (conv => whnf)
                    refine CK.bool ent38 (within_ok r.Clock 1 1000000) (Subs.refl _) (fun d3 => ?_) (fun d3 => ?_) <;> (conv => whnf)
                    rotate_left
                    · exact hH hB (by unfold headR inR; rw [d3]; simp)
                    refine CK.bool ent48 (name_ok r.Branch hr.branch) (Subs.refl _) (fun d4 => ?_) (fun d4 => ?_) <;> (conv => whnf)
                    rotate_left
                    · exact hH hB (by unfold headR; rw [d4]; simp)
                    refine BK.mk (fun d5 => ?_) (fun d5 => ?_) <;> (conv => whnf)
                    · exact hH hB (by unfold headR; rw [d5]; simp)
                    refine CK.bool ent49 (digests_ok r.Parents hr.parents) (Subs.refl _) (fun d6 => ?_) (fun d6 => ?_) <;> (conv => whnf)
                    rotate_left
                    · exact hH hB (by unfold headR; rw [d6]; simp)
                    have hhead : headR r = true := by unfold headR inR; rw [d1, d2, d3, d4, d5, d6, hinc]; rfl
                    refine CK.pure ent50 (textR_ok r.Edits hr.edits hr.edit) (Subs.refl _) ?_
                    cases ht : (textR r.Edits).2 <;> (conv => whnf)
                    · exact FK.weak (Sub.eq (b_eq (by unfold validR; rw [ht]; simp))) hB
                    have hT : ∀ {B : AO} {b : Bool}, B.le A → tailR r = b → FK (fun v' B => v' = AV.bool (validR r) ∧ B = A) (.bool b) B := fun hB h => FK.weak (Sub.eq (b_eq (by unfold validR; rw [hpriv, hhead, ht, h]; rfl))) hB
                    by_cases k1 : r.Kind = 1
                    · have hk := k1
                      have hW : wantR r = some ([], false, 0, [], true) := by unfold wantR; rw [if_pos k1]
                      have hTl : tailR r = ((r.Target == []) && ((r.Yes == false) && ((r.Order == 0) && ((r.From == []) && ((decide ((r.Edits.length : Int) > 0) == true) && (!(decide (r.Kind = 2) || decide (r.Kind = 3)) || isP [])))))) := by unfold tailR; rw [hW]
                      repeat' ((first | (refine BK.eq (fun h => absurd (hk.symm.trans h) (by decide)) (fun _ => ?_)) | (refine BK.eq (fun _ => ?_) (fun h => absurd hk h)) | (refine NK.mk (by kernel_rfl) ?_)) <;> (conv => whnf))
                      refine BK.mk (fun f1 => ?_) (fun f1 => ?_) <;> (conv => whnf)
                      rotate_left
                      · exact hT hB (by rw [hTl, f1]; rfl)
                      refine BK.mk (fun f2 => ?_) (fun f2 => ?_) <;> (conv => whnf)
                      rotate_left
                      · exact hT hB (by rw [hTl, f2]; simp)
                      refine BK.mk (fun f3 => ?_) (fun f3 => ?_) <;> (conv => whnf)
                      rotate_left
                      · exact hT hB (by rw [hTl, f3]; simp)
                      refine BK.mk (fun f4 => ?_) (fun f4 => ?_) <;> (conv => whnf)
                      rotate_left
                      · exact hT hB (by rw [hTl, f4]; simp)
                      refine BK.mk (fun f5 => ?_) (fun f5 => ?_) <;> (conv => whnf)
                      all_goals
                        first
                          | (refine BK.is (c := true) rfl ?_)
                          | (refine BK.is (c := false) rfl ?_)
                        (conv => whnf)
                        exact hT hB (by rw [hTl, f1, f2, f3, f4, f5]; simp [hk])
                    by_cases k2 : r.Kind = 2
                    · have hk := k2
                      have hW : wantR r = some (r.Target, r.Yes, 0, [], false) := by unfold wantR; rw [if_neg k1, if_pos k2]
                      have hTl : tailR r = ((r.Target == r.Target) && ((r.Yes == r.Yes) && ((r.Order == 0) && ((r.From == []) && ((decide ((r.Edits.length : Int) > 0) == false) && (!(decide (r.Kind = 2) || decide (r.Kind = 3)) || isP r.Target)))))) := by unfold tailR; rw [hW]
                      repeat' ((first | (refine BK.eq (fun h => absurd (hk.symm.trans h) (by decide)) (fun _ => ?_)) | (refine BK.eq (fun _ => ?_) (fun h => absurd hk h)) | (refine NK.mk (by kernel_rfl) ?_)) <;> (conv => whnf))
                      refine BK.mk (fun f1 => ?_) (fun f1 => ?_) <;> (conv => whnf)
                      rotate_left
                      · exact hT hB (by rw [hTl, f1]; rfl)
                      refine BK.mk (fun f2 => ?_) (fun f2 => ?_) <;> (conv => whnf)
                      rotate_left
                      · exact hT hB (by rw [hTl, f2]; simp)
                      refine BK.mk (fun f3 => ?_) (fun f3 => ?_) <;> (conv => whnf)
                      rotate_left
                      · exact hT hB (by rw [hTl, f3]; simp)
                      refine BK.mk (fun f4 => ?_) (fun f4 => ?_) <;> (conv => whnf)
                      rotate_left
                      · exact hT hB (by rw [hTl, f4]; simp)
                      refine BK.mk (fun f5 => ?_) (fun f5 => ?_) <;> (conv => whnf)
                      all_goals
                        first
                          | (refine BK.is (c := true) rfl ?_; (conv => whnf); refine CK.bool ent51 (is_ok r.Target hr.target) (Subs.refl _) (fun f7 => ?_) (fun f7 => ?_) <;> (conv => whnf) <;> exact hT hB (by rw [hTl, f1, f2, f3, f4, f5, f7]; simp [hk]))
                          | (refine BK.is (c := false) rfl ?_; (conv => whnf); exact hT hB (by rw [hTl, f1, f2, f3, f4, f5]; simp [hk]))
                    by_cases k3 : r.Kind = 3
                    · have hk := k3
                      repeat' ((first | (refine BK.eq (fun h => absurd (hk.symm.trans h) (by decide)) (fun _ => ?_)) | (refine BK.eq (fun _ => ?_) (fun h => absurd hk h)) | (refine NK.mk (by kernel_rfl) ?_)) <;> (conv => whnf))
                      refine BK.mk (fun f0 => ?_) (fun f0 => ?_) <;> (conv => whnf)
                      · refine NK.mk (by kernel_rfl) ?_
                        (conv => whnf)
                        refine GK.mk _ hBr ?_
                        (conv => whnf)
                        refine CK.bool ent38 (within_ok r.Order 1 4) (Subs.refl _) (fun g1 => ?_) (fun g1 => ?_) <;> (conv => whnf)
                        rotate_left
                        · exact hT hB (by unfold tailR wantR inR; rw [if_neg k1, if_neg k2, if_pos k3, g1])
                        have hW : wantR r = some (r.Target, false, r.Order, [], true) := by unfold wantR; rw [if_neg k1, if_neg k2, if_pos k3, show inR r.Order 1 4 = true from g1]; exact congrArg (fun x => some (r.Target, false, r.Order, ([] : Str), x)) f0
                        have hTl : tailR r = ((r.Target == r.Target) && ((r.Yes == false) && ((r.Order == r.Order) && ((r.From == []) && ((decide ((r.Edits.length : Int) > 0) == true) && (!(decide (r.Kind = 2) || decide (r.Kind = 3)) || isP r.Target)))))) := by unfold tailR; rw [hW]
                        repeat' ((first | (refine BK.eq (fun h => absurd (hk.symm.trans h) (by decide)) (fun _ => ?_)) | (refine BK.eq (fun _ => ?_) (fun h => absurd hk h)) | (refine NK.mk (by kernel_rfl) ?_)) <;> (conv => whnf))
                        refine BK.mk (fun f1 => ?_) (fun f1 => ?_) <;> (conv => whnf)
                        rotate_left
                        · exact hT hB (by rw [hTl, f1]; rfl)
                        refine BK.mk (fun f2 => ?_) (fun f2 => ?_) <;> (conv => whnf)
                        rotate_left
                        · exact hT hB (by rw [hTl, f2]; simp)
                        refine BK.mk (fun f3 => ?_) (fun f3 => ?_) <;> (conv => whnf)
                        rotate_left
                        · exact hT hB (by rw [hTl, f3]; simp)
                        refine BK.mk (fun f4 => ?_) (fun f4 => ?_) <;> (conv => whnf)
                        rotate_left
                        · exact hT hB (by rw [hTl, f4]; simp)
                        refine BK.mk (fun f5 => ?_) (fun f5 => ?_) <;> (conv => whnf)
                        all_goals
                          first
                            | (refine BK.is (c := true) rfl ?_; (conv => whnf); refine CK.bool ent51 (is_ok r.Target hr.target) (Subs.refl _) (fun f7 => ?_) (fun f7 => ?_) <;> (conv => whnf) <;> exact hT hB (by rw [hTl, f1, f2, f3, f4, f5, f7]; simp [hk]))
                            | (refine BK.is (c := false) rfl ?_; (conv => whnf); exact hT hB (by rw [hTl, f1, f2, f3, f4, f5]; simp [hk]))
                      · refine NK.mk (by kernel_rfl) ?_
                        (conv => whnf)
                        refine GK.mk _ hBr ?_
                        (conv => whnf)
                        refine CK.bool ent38 (within_ok r.Order 1 4) (Subs.refl _) (fun g1 => ?_) (fun g1 => ?_) <;> (conv => whnf)
                        rotate_left
                        · exact hT hB (by unfold tailR wantR inR; rw [if_neg k1, if_neg k2, if_pos k3, g1])
                        have hW : wantR r = some (r.Target, false, r.Order, [], false) := by unfold wantR; rw [if_neg k1, if_neg k2, if_pos k3, show inR r.Order 1 4 = true from g1]; exact congrArg (fun x => some (r.Target, false, r.Order, ([] : Str), x)) f0
                        have hTl : tailR r = ((r.Target == r.Target) && ((r.Yes == false) && ((r.Order == r.Order) && ((r.From == []) && ((decide ((r.Edits.length : Int) > 0) == false) && (!(decide (r.Kind = 2) || decide (r.Kind = 3)) || isP r.Target)))))) := by unfold tailR; rw [hW]
                        repeat' ((first | (refine BK.eq (fun h => absurd (hk.symm.trans h) (by decide)) (fun _ => ?_)) | (refine BK.eq (fun _ => ?_) (fun h => absurd hk h)) | (refine NK.mk (by kernel_rfl) ?_)) <;> (conv => whnf))
                        refine BK.mk (fun f1 => ?_) (fun f1 => ?_) <;> (conv => whnf)
                        rotate_left
                        · exact hT hB (by rw [hTl, f1]; rfl)
                        refine BK.mk (fun f2 => ?_) (fun f2 => ?_) <;> (conv => whnf)
                        rotate_left
                        · exact hT hB (by rw [hTl, f2]; simp)
                        refine BK.mk (fun f3 => ?_) (fun f3 => ?_) <;> (conv => whnf)
                        rotate_left
                        · exact hT hB (by rw [hTl, f3]; simp)
                        refine BK.mk (fun f4 => ?_) (fun f4 => ?_) <;> (conv => whnf)
                        rotate_left
                        · exact hT hB (by rw [hTl, f4]; simp)
                        refine BK.mk (fun f5 => ?_) (fun f5 => ?_) <;> (conv => whnf)
                        all_goals
                          first
                            | (refine BK.is (c := true) rfl ?_; (conv => whnf); refine CK.bool ent51 (is_ok r.Target hr.target) (Subs.refl _) (fun f7 => ?_) (fun f7 => ?_) <;> (conv => whnf) <;> exact hT hB (by rw [hTl, f1, f2, f3, f4, f5, f7]; simp [hk]))
                            | (refine BK.is (c := false) rfl ?_; (conv => whnf); exact hT hB (by rw [hTl, f1, f2, f3, f4, f5]; simp [hk]))
                    by_cases k4 : r.Kind = 4
                    · have hk := k4
                      repeat' ((first | (refine BK.eq (fun h => absurd (hk.symm.trans h) (by decide)) (fun _ => ?_)) | (refine BK.eq (fun _ => ?_) (fun h => absurd hk h)) | (refine NK.mk (by kernel_rfl) ?_)) <;> (conv => whnf))
                      refine CK.bool ent48 (name_ok r.From hr.from_) (Subs.refl _) (fun g1 => ?_) (fun g1 => ?_) <;> (conv => whnf)
                      rotate_left
                      · exact hT hB (by unfold tailR wantR; rw [if_neg k1, if_neg k2, if_neg k3, if_pos k4, g1]; rfl)
                      refine BK.mk (fun g2 => ?_) (fun g2 => ?_) <;> (conv => whnf)
                      · exact hT hB (by unfold tailR wantR; rw [if_neg k1, if_neg k2, if_neg k3, if_pos k4, g1, g2]; rfl)
                      have hW : wantR r = some ([], false, 0, r.From, false) := by unfold wantR; rw [if_neg k1, if_neg k2, if_neg k3, if_pos k4, g1, g2]; rfl
                      have hTl : tailR r = ((r.Target == []) && ((r.Yes == false) && ((r.Order == 0) && ((r.From == r.From) && ((decide ((r.Edits.length : Int) > 0) == false) && (!(decide (r.Kind = 2) || decide (r.Kind = 3)) || isP [])))))) := by unfold tailR; rw [hW]
                      repeat' ((first | (refine BK.eq (fun h => absurd (hk.symm.trans h) (by decide)) (fun _ => ?_)) | (refine BK.eq (fun _ => ?_) (fun h => absurd hk h)) | (refine NK.mk (by kernel_rfl) ?_)) <;> (conv => whnf))
                      refine BK.mk (fun f1 => ?_) (fun f1 => ?_) <;> (conv => whnf)
                      rotate_left
                      · exact hT hB (by rw [hTl, f1]; rfl)
                      refine BK.mk (fun f2 => ?_) (fun f2 => ?_) <;> (conv => whnf)
                      rotate_left
                      · exact hT hB (by rw [hTl, f2]; simp)
                      refine BK.mk (fun f3 => ?_) (fun f3 => ?_) <;> (conv => whnf)
                      rotate_left
                      · exact hT hB (by rw [hTl, f3]; simp)
                      refine BK.mk (fun f4 => ?_) (fun f4 => ?_) <;> (conv => whnf)
                      rotate_left
                      · exact hT hB (by rw [hTl, f4]; simp)
                      refine BK.mk (fun f5 => ?_) (fun f5 => ?_) <;> (conv => whnf)
                      all_goals
                        first
                          | (refine BK.is (c := true) rfl ?_)
                          | (refine BK.is (c := false) rfl ?_)
                        (conv => whnf)
                        exact hT hB (by rw [hTl, f1, f2, f3, f4, f5]; simp [hk])
                    by_cases k5 : r.Kind = 5
                    · have hk := k5
                      have hW : wantR r = some ([], false, 0, [], false) := by unfold wantR; rw [if_neg k1, if_neg k2, if_neg k3, if_neg k4, if_pos k5]
                      have hTl : tailR r = ((r.Target == []) && ((r.Yes == false) && ((r.Order == 0) && ((r.From == []) && ((decide ((r.Edits.length : Int) > 0) == false) && (!(decide (r.Kind = 2) || decide (r.Kind = 3)) || isP [])))))) := by unfold tailR; rw [hW]
                      repeat' ((first | (refine BK.eq (fun h => absurd (hk.symm.trans h) (by decide)) (fun _ => ?_)) | (refine BK.eq (fun _ => ?_) (fun h => absurd hk h)) | (refine NK.mk (by kernel_rfl) ?_)) <;> (conv => whnf))
                      refine BK.mk (fun f1 => ?_) (fun f1 => ?_) <;> (conv => whnf)
                      rotate_left
                      · exact hT hB (by rw [hTl, f1]; rfl)
                      refine BK.mk (fun f2 => ?_) (fun f2 => ?_) <;> (conv => whnf)
                      rotate_left
                      · exact hT hB (by rw [hTl, f2]; simp)
                      refine BK.mk (fun f3 => ?_) (fun f3 => ?_) <;> (conv => whnf)
                      rotate_left
                      · exact hT hB (by rw [hTl, f3]; simp)
                      refine BK.mk (fun f4 => ?_) (fun f4 => ?_) <;> (conv => whnf)
                      rotate_left
                      · exact hT hB (by rw [hTl, f4]; simp)
                      refine BK.mk (fun f5 => ?_) (fun f5 => ?_) <;> (conv => whnf)
                      all_goals
                        first
                          | (refine BK.is (c := true) rfl ?_)
                          | (refine BK.is (c := false) rfl ?_)
                        (conv => whnf)
                        exact hT hB (by rw [hTl, f1, f2, f3, f4, f5]; simp [hk])
                    · repeat' ((first | (refine BK.eq (fun h => by exfalso; first | exact k1 h | exact k2 h | exact k3 h | exact k4 h | exact k5 h) (fun _ => ?_))) <;> (conv => whnf))
                      exact hT hB (by unfold tailR wantR; rw [if_neg k1, if_neg k2, if_neg k3, if_neg k4, if_neg k5])
                  · rw [hB1]
                    clear hB1
                    (conv => whnf)
                    refine CK.mk ent46 (compact_ok r.Parents q row _ hr.pars hn setRow_at hrw hrl) (Subs.refl _) ?_
                    rintro v B ⟨row', rfl, hB2⟩
                    have hqp : p ≠ q := by rintro rfl; exact hq (.inl (by rw [hrow]; simp))
                    have hB : B.le A := by rw [hB2]; exact AO.le.trans (setRow2_le hq) hle
                    have hBr : B.rows p = some [.fn (.func 38) [] []] := by rw [hB2, setRow_row hqp, setRow_row hqp]; exact hrow
                    clear hB2
                    (conv => whnf)
                    refine BK.is (c := apartP r.Parents) (by
                      rw [Bool.eq_iff_iff, ← compact_len, beq_iff_eq]
                      exact ⟨fun h => by exact_mod_cast (show ((Lib.compact r.Parents).length : Int) = r.Parents.length from h), fun h => by rw [h]⟩) ?_
                    cases s2 : apartP r.Parents <;> (conv => whnf)
                    · have hinc : incP r.Parents = false := by unfold incP; rw [s2]; simp
                      refine GK.mk _ hBr ?_
                      (conv => whnf)
                      refine CK.bool ent38 (within_ok r.Author 0 59) (Subs.refl _) (fun d1 => ?_) (fun d1 => ?_) <;> (conv => whnf)
                      rotate_left
                      · exact hH hB (by unfold headR inR; rw [d1]; rfl)
                      refine GK.mk _ hBr ?_
                      (conv => whnf)
                      refine CK.bool ent38 (within_ok r.Number 1 128) (Subs.refl _) (fun d2 => ?_) (fun d2 => ?_) <;> (conv => whnf)
                      rotate_left
                      · exact hH hB (by unfold headR inR; rw [d2]; simp)
                      refine GK.mk _ hBr ?_
                      (conv => whnf)
                      refine CK.bool ent38 (within_ok r.Clock 1 1000000) (Subs.refl _) (fun d3 => ?_) (fun d3 => ?_) <;> (conv => whnf)
                      rotate_left
                      · exact hH hB (by unfold headR inR; rw [d3]; simp)
                      refine CK.bool ent48 (name_ok r.Branch hr.branch) (Subs.refl _) (fun d4 => ?_) (fun d4 => ?_) <;> (conv => whnf)
                      rotate_left
                      · exact hH hB (by unfold headR; rw [d4]; simp)
                      refine BK.mk (fun d5 => ?_) (fun d5 => ?_) <;> (conv => whnf)
                      · exact hH hB (by unfold headR; rw [d5]; simp)
                      refine CK.bool ent49 (digests_ok r.Parents hr.parents) (Subs.refl _) (fun d6 => ?_) (fun d6 => ?_) <;> (conv => whnf)
                      rotate_left
                      · exact hH hB (by unfold headR; rw [d6]; simp)
                      exact hH hB (by unfold headR; rw [hinc]; simp)
                    · have hinc : incP r.Parents = true := by unfold incP; rw [s1, s2]; rfl
                      refine GK.mk _ hBr ?_
                      (conv => whnf)
                      refine CK.bool ent38 (within_ok r.Author 0 59) (Subs.refl _) (fun d1 => ?_) (fun d1 => ?_) <;> (conv => whnf)
                      rotate_left
                      · exact hH hB (by unfold headR inR; rw [d1]; rfl)
                      refine GK.mk _ hBr ?_
                      (conv => whnf)
                      refine CK.bool ent38 (within_ok r.Number 1 128) (Subs.refl _) (fun d2 => ?_) (fun d2 => ?_) <;> (conv => whnf)
                      rotate_left
                      · exact hH hB (by unfold headR inR; rw [d2]; simp)
                      refine GK.mk _ hBr ?_
                      (conv => whnf)
                      refine CK.bool ent38 (within_ok r.Clock 1 1000000) (Subs.refl _) (fun d3 => ?_) (fun d3 => ?_) <;> (conv => whnf)
                      rotate_left
                      · exact hH hB (by unfold headR inR; rw [d3]; simp)
                      refine CK.bool ent48 (name_ok r.Branch hr.branch) (Subs.refl _) (fun d4 => ?_) (fun d4 => ?_) <;> (conv => whnf)
                      rotate_left
                      · exact hH hB (by unfold headR; rw [d4]; simp)
                      refine BK.mk (fun d5 => ?_) (fun d5 => ?_) <;> (conv => whnf)
                      · exact hH hB (by unfold headR; rw [d5]; simp)
                      refine CK.bool ent49 (digests_ok r.Parents hr.parents) (Subs.refl _) (fun d6 => ?_) (fun d6 => ?_) <;> (conv => whnf)
                      rotate_left
                      · exact hH hB (by unfold headR; rw [d6]; simp)
                      have hhead : headR r = true := by unfold headR inR; rw [d1, d2, d3, d4, d5, d6, hinc]; rfl
                      refine CK.pure ent50 (textR_ok r.Edits hr.edits hr.edit) (Subs.refl _) ?_
                      cases ht : (textR r.Edits).2 <;> (conv => whnf)
                      · exact FK.weak (Sub.eq (b_eq (by unfold validR; rw [ht]; simp))) hB
                      have hT : ∀ {B : AO} {b : Bool}, B.le A → tailR r = b → FK (fun v' B => v' = AV.bool (validR r) ∧ B = A) (.bool b) B := fun hB h => FK.weak (Sub.eq (b_eq (by unfold validR; rw [hpriv, hhead, ht, h]; rfl))) hB
                      by_cases k1 : r.Kind = 1
                      · have hk := k1
                        have hW : wantR r = some ([], false, 0, [], true) := by unfold wantR; rw [if_pos k1]
                        have hTl : tailR r = ((r.Target == []) && ((r.Yes == false) && ((r.Order == 0) && ((r.From == []) && ((decide ((r.Edits.length : Int) > 0) == true) && (!(decide (r.Kind = 2) || decide (r.Kind = 3)) || isP [])))))) := by unfold tailR; rw [hW]
                        repeat' ((first | (refine BK.eq (fun h => absurd (hk.symm.trans h) (by decide)) (fun _ => ?_)) | (refine BK.eq (fun _ => ?_) (fun h => absurd hk h)) | (refine NK.mk (by kernel_rfl) ?_)) <;> (conv => whnf))
                        refine BK.mk (fun f1 => ?_) (fun f1 => ?_) <;> (conv => whnf)
                        rotate_left
                        · exact hT hB (by rw [hTl, f1]; rfl)
                        refine BK.mk (fun f2 => ?_) (fun f2 => ?_) <;> (conv => whnf)
                        rotate_left
                        · exact hT hB (by rw [hTl, f2]; simp)
                        refine BK.mk (fun f3 => ?_) (fun f3 => ?_) <;> (conv => whnf)
                        rotate_left
                        · exact hT hB (by rw [hTl, f3]; simp)
                        refine BK.mk (fun f4 => ?_) (fun f4 => ?_) <;> (conv => whnf)
                        rotate_left
                        · exact hT hB (by rw [hTl, f4]; simp)
                        refine BK.mk (fun f5 => ?_) (fun f5 => ?_) <;> (conv => whnf)
                        all_goals
                          first
                            | (refine BK.is (c := true) rfl ?_)
                            | (refine BK.is (c := false) rfl ?_)
                          (conv => whnf)
                          exact hT hB (by rw [hTl, f1, f2, f3, f4, f5]; simp [hk])
                      by_cases k2 : r.Kind = 2
                      · have hk := k2
                        have hW : wantR r = some (r.Target, r.Yes, 0, [], false) := by unfold wantR; rw [if_neg k1, if_pos k2]
                        have hTl : tailR r = ((r.Target == r.Target) && ((r.Yes == r.Yes) && ((r.Order == 0) && ((r.From == []) && ((decide ((r.Edits.length : Int) > 0) == false) && (!(decide (r.Kind = 2) || decide (r.Kind = 3)) || isP r.Target)))))) := by unfold tailR; rw [hW]
                        repeat' ((first | (refine BK.eq (fun h => absurd (hk.symm.trans h) (by decide)) (fun _ => ?_)) | (refine BK.eq (fun _ => ?_) (fun h => absurd hk h)) | (refine NK.mk (by kernel_rfl) ?_)) <;> (conv => whnf))
                        refine BK.mk (fun f1 => ?_) (fun f1 => ?_) <;> (conv => whnf)
                        rotate_left
                        · exact hT hB (by rw [hTl, f1]; rfl)
                        refine BK.mk (fun f2 => ?_) (fun f2 => ?_) <;> (conv => whnf)
                        rotate_left
                        · exact hT hB (by rw [hTl, f2]; simp)
                        refine BK.mk (fun f3 => ?_) (fun f3 => ?_) <;> (conv => whnf)
                        rotate_left
                        · exact hT hB (by rw [hTl, f3]; simp)
                        refine BK.mk (fun f4 => ?_) (fun f4 => ?_) <;> (conv => whnf)
                        rotate_left
                        · exact hT hB (by rw [hTl, f4]; simp)
                        refine BK.mk (fun f5 => ?_) (fun f5 => ?_) <;> (conv => whnf)
                        all_goals
                          first
                            | (refine BK.is (c := true) rfl ?_; (conv => whnf); refine CK.bool ent51 (is_ok r.Target hr.target) (Subs.refl _) (fun f7 => ?_) (fun f7 => ?_) <;> (conv => whnf) <;> exact hT hB (by rw [hTl, f1, f2, f3, f4, f5, f7]; simp [hk]))
                            | (refine BK.is (c := false) rfl ?_; (conv => whnf); exact hT hB (by rw [hTl, f1, f2, f3, f4, f5]; simp [hk]))
                      by_cases k3 : r.Kind = 3
                      · have hk := k3
                        repeat' ((first | (refine BK.eq (fun h => absurd (hk.symm.trans h) (by decide)) (fun _ => ?_)) | (refine BK.eq (fun _ => ?_) (fun h => absurd hk h)) | (refine NK.mk (by kernel_rfl) ?_)) <;> (conv => whnf))
                        refine BK.mk (fun f0 => ?_) (fun f0 => ?_) <;> (conv => whnf)
                        · refine NK.mk (by kernel_rfl) ?_
                          (conv => whnf)
                          refine GK.mk _ hBr ?_
                          (conv => whnf)
                          refine CK.bool ent38 (within_ok r.Order 1 4) (Subs.refl _) (fun g1 => ?_) (fun g1 => ?_) <;> (conv => whnf)
                          rotate_left
                          · exact hT hB (by unfold tailR wantR inR; rw [if_neg k1, if_neg k2, if_pos k3, g1])
                          have hW : wantR r = some (r.Target, false, r.Order, [], true) := by unfold wantR; rw [if_neg k1, if_neg k2, if_pos k3, show inR r.Order 1 4 = true from g1]; exact congrArg (fun x => some (r.Target, false, r.Order, ([] : Str), x)) f0
                          have hTl : tailR r = ((r.Target == r.Target) && ((r.Yes == false) && ((r.Order == r.Order) && ((r.From == []) && ((decide ((r.Edits.length : Int) > 0) == true) && (!(decide (r.Kind = 2) || decide (r.Kind = 3)) || isP r.Target)))))) := by unfold tailR; rw [hW]
                          repeat' ((first | (refine BK.eq (fun h => absurd (hk.symm.trans h) (by decide)) (fun _ => ?_)) | (refine BK.eq (fun _ => ?_) (fun h => absurd hk h)) | (refine NK.mk (by kernel_rfl) ?_)) <;> (conv => whnf))
                          refine BK.mk (fun f1 => ?_) (fun f1 => ?_) <;> (conv => whnf)
                          rotate_left
                          · exact hT hB (by rw [hTl, f1]; rfl)
                          refine BK.mk (fun f2 => ?_) (fun f2 => ?_) <;> (conv => whnf)
                          rotate_left
                          · exact hT hB (by rw [hTl, f2]; simp)
                          refine BK.mk (fun f3 => ?_) (fun f3 => ?_) <;> (conv => whnf)
                          rotate_left
                          · exact hT hB (by rw [hTl, f3]; simp)
                          refine BK.mk (fun f4 => ?_) (fun f4 => ?_) <;> (conv => whnf)
                          rotate_left
                          · exact hT hB (by rw [hTl, f4]; simp)
                          refine BK.mk (fun f5 => ?_) (fun f5 => ?_) <;> (conv => whnf)
                          all_goals
                            first
                              | (refine BK.is (c := true) rfl ?_; (conv => whnf); refine CK.bool ent51 (is_ok r.Target hr.target) (Subs.refl _) (fun f7 => ?_) (fun f7 => ?_) <;> (conv => whnf) <;> exact hT hB (by rw [hTl, f1, f2, f3, f4, f5, f7]; simp [hk]))
                              | (refine BK.is (c := false) rfl ?_; (conv => whnf); exact hT hB (by rw [hTl, f1, f2, f3, f4, f5]; simp [hk]))
                        · refine NK.mk (by kernel_rfl) ?_
                          (conv => whnf)
                          refine GK.mk _ hBr ?_
                          (conv => whnf)
                          refine CK.bool ent38 (within_ok r.Order 1 4) (Subs.refl _) (fun g1 => ?_) (fun g1 => ?_) <;> (conv => whnf)
                          rotate_left
                          · exact hT hB (by unfold tailR wantR inR; rw [if_neg k1, if_neg k2, if_pos k3, g1])
                          have hW : wantR r = some (r.Target, false, r.Order, [], false) := by unfold wantR; rw [if_neg k1, if_neg k2, if_pos k3, show inR r.Order 1 4 = true from g1]; exact congrArg (fun x => some (r.Target, false, r.Order, ([] : Str), x)) f0
                          have hTl : tailR r = ((r.Target == r.Target) && ((r.Yes == false) && ((r.Order == r.Order) && ((r.From == []) && ((decide ((r.Edits.length : Int) > 0) == false) && (!(decide (r.Kind = 2) || decide (r.Kind = 3)) || isP r.Target)))))) := by unfold tailR; rw [hW]
                          repeat' ((first | (refine BK.eq (fun h => absurd (hk.symm.trans h) (by decide)) (fun _ => ?_)) | (refine BK.eq (fun _ => ?_) (fun h => absurd hk h)) | (refine NK.mk (by kernel_rfl) ?_)) <;> (conv => whnf))
                          refine BK.mk (fun f1 => ?_) (fun f1 => ?_) <;> (conv => whnf)
                          rotate_left
                          · exact hT hB (by rw [hTl, f1]; rfl)
                          refine BK.mk (fun f2 => ?_) (fun f2 => ?_) <;> (conv => whnf)
                          rotate_left
                          · exact hT hB (by rw [hTl, f2]; simp)
                          refine BK.mk (fun f3 => ?_) (fun f3 => ?_) <;> (conv => whnf)
                          rotate_left
                          · exact hT hB (by rw [hTl, f3]; simp)
                          refine BK.mk (fun f4 => ?_) (fun f4 => ?_) <;> (conv => whnf)
                          rotate_left
                          · exact hT hB (by rw [hTl, f4]; simp)
                          refine BK.mk (fun f5 => ?_) (fun f5 => ?_) <;> (conv => whnf)
                          all_goals
                            first
                              | (refine BK.is (c := true) rfl ?_; (conv => whnf); refine CK.bool ent51 (is_ok r.Target hr.target) (Subs.refl _) (fun f7 => ?_) (fun f7 => ?_) <;> (conv => whnf) <;> exact hT hB (by rw [hTl, f1, f2, f3, f4, f5, f7]; simp [hk]))
                              | (refine BK.is (c := false) rfl ?_; (conv => whnf); exact hT hB (by rw [hTl, f1, f2, f3, f4, f5]; simp [hk]))
                      by_cases k4 : r.Kind = 4
                      · have hk := k4
                        repeat' ((first | (refine BK.eq (fun h => absurd (hk.symm.trans h) (by decide)) (fun _ => ?_)) | (refine BK.eq (fun _ => ?_) (fun h => absurd hk h)) | (refine NK.mk (by kernel_rfl) ?_)) <;> (conv => whnf))
                        refine CK.bool ent48 (name_ok r.From hr.from_) (Subs.refl _) (fun g1 => ?_) (fun g1 => ?_) <;> (conv => whnf)
                        rotate_left
                        · exact hT hB (by unfold tailR wantR; rw [if_neg k1, if_neg k2, if_neg k3, if_pos k4, g1]; rfl)
                        refine BK.mk (fun g2 => ?_) (fun g2 => ?_) <;> (conv => whnf)
                        · exact hT hB (by unfold tailR wantR; rw [if_neg k1, if_neg k2, if_neg k3, if_pos k4, g1, g2]; rfl)
                        have hW : wantR r = some ([], false, 0, r.From, false) := by unfold wantR; rw [if_neg k1, if_neg k2, if_neg k3, if_pos k4, g1, g2]; rfl
                        have hTl : tailR r = ((r.Target == []) && ((r.Yes == false) && ((r.Order == 0) && ((r.From == r.From) && ((decide ((r.Edits.length : Int) > 0) == false) && (!(decide (r.Kind = 2) || decide (r.Kind = 3)) || isP [])))))) := by unfold tailR; rw [hW]
                        repeat' ((first | (refine BK.eq (fun h => absurd (hk.symm.trans h) (by decide)) (fun _ => ?_)) | (refine BK.eq (fun _ => ?_) (fun h => absurd hk h)) | (refine NK.mk (by kernel_rfl) ?_)) <;> (conv => whnf))
                        refine BK.mk (fun f1 => ?_) (fun f1 => ?_) <;> (conv => whnf)
                        rotate_left
                        · exact hT hB (by rw [hTl, f1]; rfl)
                        refine BK.mk (fun f2 => ?_) (fun f2 => ?_) <;> (conv => whnf)
                        rotate_left
                        · exact hT hB (by rw [hTl, f2]; simp)
                        refine BK.mk (fun f3 => ?_) (fun f3 => ?_) <;> (conv => whnf)
                        rotate_left
                        · exact hT hB (by rw [hTl, f3]; simp)
                        refine BK.mk (fun f4 => ?_) (fun f4 => ?_) <;> (conv => whnf)
                        rotate_left
                        · exact hT hB (by rw [hTl, f4]; simp)
                        refine BK.mk (fun f5 => ?_) (fun f5 => ?_) <;> (conv => whnf)
                        all_goals
                          first
                            | (refine BK.is (c := true) rfl ?_)
                            | (refine BK.is (c := false) rfl ?_)
                          (conv => whnf)
                          exact hT hB (by rw [hTl, f1, f2, f3, f4, f5]; simp [hk])
                      by_cases k5 : r.Kind = 5
                      · have hk := k5
                        have hW : wantR r = some ([], false, 0, [], false) := by unfold wantR; rw [if_neg k1, if_neg k2, if_neg k3, if_neg k4, if_pos k5]
                        have hTl : tailR r = ((r.Target == []) && ((r.Yes == false) && ((r.Order == 0) && ((r.From == []) && ((decide ((r.Edits.length : Int) > 0) == false) && (!(decide (r.Kind = 2) || decide (r.Kind = 3)) || isP [])))))) := by unfold tailR; rw [hW]
                        repeat' ((first | (refine BK.eq (fun h => absurd (hk.symm.trans h) (by decide)) (fun _ => ?_)) | (refine BK.eq (fun _ => ?_) (fun h => absurd hk h)) | (refine NK.mk (by kernel_rfl) ?_)) <;> (conv => whnf))
                        refine BK.mk (fun f1 => ?_) (fun f1 => ?_) <;> (conv => whnf)
                        rotate_left
                        · exact hT hB (by rw [hTl, f1]; rfl)
                        refine BK.mk (fun f2 => ?_) (fun f2 => ?_) <;> (conv => whnf)
                        rotate_left
                        · exact hT hB (by rw [hTl, f2]; simp)
                        refine BK.mk (fun f3 => ?_) (fun f3 => ?_) <;> (conv => whnf)
                        rotate_left
                        · exact hT hB (by rw [hTl, f3]; simp)
                        refine BK.mk (fun f4 => ?_) (fun f4 => ?_) <;> (conv => whnf)
                        rotate_left
                        · exact hT hB (by rw [hTl, f4]; simp)
                        refine BK.mk (fun f5 => ?_) (fun f5 => ?_) <;> (conv => whnf)
                        all_goals
                          first
                            | (refine BK.is (c := true) rfl ?_)
                            | (refine BK.is (c := false) rfl ?_)
                          (conv => whnf)
                          exact hT hB (by rw [hTl, f1, f2, f3, f4, f5]; simp [hk])
                      · repeat' ((first | (refine BK.eq (fun h => by exfalso; first | exact k1 h | exact k2 h | exact k3 h | exact k4 h | exact k5 h) (fun _ => ?_))) <;> (conv => whnf))
                        exact hT hB (by unfold tailR wantR; rw [if_neg k1, if_neg k2, if_neg k3, if_neg k4, if_neg k5])
                · refine NK.mk (by kernel_rfl) ?_
                  (conv => whnf)
                  have hB := hle
                  have hBr := hrow
                  have hinc : incP r.Parents = false := by unfold incP; rw [s1]; rfl
                  refine GK.mk _ hBr ?_
                  (conv => whnf)
                  refine CK.bool ent38 (within_ok r.Author 0 59) (Subs.refl _) (fun d1 => ?_) (fun d1 => ?_) <;> (conv => whnf)
                  rotate_left
                  · exact hH hB (by unfold headR inR; rw [d1]; rfl)
                  refine GK.mk _ hBr ?_
                  (conv => whnf)
                  refine CK.bool ent38 (within_ok r.Number 1 128) (Subs.refl _) (fun d2 => ?_) (fun d2 => ?_) <;> (conv => whnf)
                  rotate_left
                  · exact hH hB (by unfold headR inR; rw [d2]; simp)
                  refine GK.mk _ hBr ?_
                  (conv => whnf)
                  refine CK.bool ent38 (within_ok r.Clock 1 1000000) (Subs.refl _) (fun d3 => ?_) (fun d3 => ?_) <;> (conv => whnf)
                  rotate_left
                  · exact hH hB (by unfold headR inR; rw [d3]; simp)
                  refine CK.bool ent48 (name_ok r.Branch hr.branch) (Subs.refl _) (fun d4 => ?_) (fun d4 => ?_) <;> (conv => whnf)
                  rotate_left
                  · exact hH hB (by unfold headR; rw [d4]; simp)
                  refine BK.mk (fun d5 => ?_) (fun d5 => ?_) <;> (conv => whnf)
                  · exact hH hB (by unfold headR; rw [d5]; simp)
                  refine CK.bool ent49 (digests_ok r.Parents hr.parents) (Subs.refl _) (fun d6 => ?_) (fun d6 => ?_) <;> (conv => whnf)
                  rotate_left
                  · exact hH hB (by unfold headR; rw [d6]; simp)
                  exact hH hB (by unfold headR; rw [hinc]; simp)
              · exact hP hle (by rw [c7]; simp)
            · exact hP hle (by unfold privR; rw [c6]; simp)
      · exact hP hle (by unfold privR; rw [c3]; simp)
    · exact hP hle (by unfold privR; rw [c2]; simp)
  · exact hP hle (by unfold privR; rw [c1]; rfl)
end Ab
end Go.Proofs.YtpmigkbcldffeaaGreatDoor
