/- ModeratePlain returns true. -/
import Derived.Test.YtpmigkbcldffeaaGreatDoorCM6
set_option linter.unusedVariables false
set_option linter.unusedSimpArgs false
set_option linter.unusedSectionVars false
namespace Go.Proofs.YtpmigkbcldffeaaGreatDoor
namespace Ab
open Go.RowKit Go.Shelf Go.Lib
set_option maxRecDepth 10000
def bareL (l : List Rc) : List Rc := l.filter fun r => decide (r.Kind ≠ 3)
theorem step_any {ms : List Int} {es : List En} {r : Rc} (h : r.Kind ≠ 3) : stepE ms es r = stepE [] es r := by
  unfold stepE
  rw [if_neg (fun k : r.Kind = 3 ∧ r.Author ∈ ms => h k.1), if_neg (fun k : r.Kind = 3 ∧ r.Author ∈ [] => h k.1)]
theorem step_three {es : List En} {r : Rc} (h : r.Kind = 3) : stepE [] es r = es := step_skip h (by simp)
theorem bare_entries (ms : List Int) (l : List Rc) : entriesP ms (bareL l) = entriesP [] l := by
  have key : ∀ (l : List Rc) (es : List En), (bareL l).foldl (stepE ms) es = l.foldl (stepE []) es := fun l => by
    induction l with
    | nil => exact fun es => rfl
    | cons r l ih =>
      intro es
      unfold bareL
      by_cases h : r.Kind = 3
      · rw [List.filter_cons_of_neg (by simp [h]), List.foldl_cons, step_three h]; exact ih es
      · rw [List.filter_cons_of_pos (by simp [h]), List.foldl_cons, List.foldl_cons, step_any h]; exact ih _
  exact key l []
theorem bare_bare (l : List Rc) : entriesP [] (bareL l) = entriesP [] l := bare_entries [] l
theorem entries_pre (t : List Rc) : ∀ es : List En, ∃ rest, t.foldl (stepE []) es = es ++ rest := by
  induction t with
  | nil => exact fun es => ⟨[], by simp⟩
  | cons r t ih =>
    intro es
    obtain ⟨rest, h⟩ := ih (stepE [] es r)
    rw [List.foldl_cons, h]
    unfold stepE
    split
    · split
      · exact ⟨rest, rfl⟩
      · exact ⟨[⟨r.Edits, idP r, 1, [], r.Edits⟩] ++ rest, by rw [List.append_assoc]⟩
    · rw [if_neg (fun k => by cases k.2)]; exact ⟨rest, rfl⟩
theorem entries_at {t : List Rc} {k : Nat} {e : En} {es : List En} (hk : k < t.length) (h : entriesP [] (t.take (k + 1)) = es ++ [e]) : (entriesP [] t)[es.length]? = some e := by
  obtain ⟨rest, hr⟩ := entries_pre (t.drop (k + 1)) (entriesP [] (t.take (k + 1)))
  have : entriesP [] t = entriesP [] (t.take (k + 1)) ++ rest := by
    rw [← hr]; unfold entriesP; rw [← List.foldl_append, List.take_append_drop]
  rw [this, h]
  simp
def mapT (es : List En) : List (AV × AV) := es.map fun e => (.str e.id, .bool true)
theorem mfindT_no (s : Str) : ∀ (es : List En) (i : Nat), (∀ e ∈ es, e.id ≠ s) → mfind (.str s) (mapT es) i = some none
  | [], _, _ => rfl
  | e :: es, i, h => by
    show (match keyEq (.str s) (.str e.id) with | some true => some (some (i, AV.bool true)) | some false => mfind (.str s) (mapT es) (i + 1) | none => none) = _
    have : (keyEq (.str s) (.str e.id)) = some false := by
      unfold keyEq
      simp only [Option.some.injEq, beq_eq_false_iff_ne]
      exact fun hh => h e (by simp) hh.symm
    rw [this]
    exact mfindT_no s es (i + 1) (fun x hx => h x (List.mem_cons_of_mem _ hx))
theorem mfindT_yes (s : Str) : ∀ (es : List En) (i : Nat), (∃ e ∈ es, e.id = s) → ∃ j, mfind (.str s) (mapT es) i = some (some (j, .bool true))
  | [], _, h => by obtain ⟨e, he, _⟩ := h; cases he
  | e :: es, i, h => by
    show ∃ j, (match keyEq (.str s) (.str e.id) with | some true => some (some (i, AV.bool true)) | some false => mfind (.str s) (mapT es) (i + 1) | none => none) = _
    by_cases hs : e.id = s
    · have : (keyEq (.str s) (.str e.id)) = some true := by
        unfold keyEq
        simp only [Option.some.injEq, beq_iff_eq]
        exact hs.symm
      rw [this]; exact ⟨i, rfl⟩
    · have : (keyEq (.str s) (.str e.id)) = some false := by
        unfold keyEq
        simp only [Option.some.injEq, beq_eq_false_iff_ne]
        exact fun hh => hs hh.symm
      rw [this]
      refine mfindT_yes s es (i + 1) ?_
      obtain ⟨x, hx, hxs⟩ := h
      rcases List.mem_cons.1 hx with rfl | hx
      · exact absurd hxs hs
      · exact ⟨x, hx, hxs⟩
theorem bare_step {l : List Rc} {k : Nat} (h : k < l.length) : bareL (l.take (k + 1)) = bareL (l.take k) ++ (if l[k].Kind = 3 then [] else [l[k]]) := by
  unfold bareL
  rw [List.take_succ_eq_append_getElem h, List.filter_append]
  congr 1
  by_cases hk : l[k].Kind = 3 <;> simp [hk]
theorem bare_le (l : List Rc) : (bareL l).length ≤ l.length := List.length_filter_le _ _
theorem setMap_twice (A : AO) (m : Nat) (x y : List (AV × AV)) : (A.setMap m x).setMap m y = A.setMap m y := by
  unfold AO.setMap
  congr 1
  funext q
  by_cases e : q = m <;> simp [e]
theorem bare_lw {l : List Rc} (h : LI l) : LW (bareL l) := ⟨by have := bare_le l; have := h.room; show (bareL l).length ≤ _; omega, fun r hr => h.one r (List.mem_filter.1 hr).1⟩
set_option maxHeartbeats 1000000 in
theorem plain_ok (l : List Rc) (hl : LI l) (w : Wd) (hw : BL w.ms.length) : PSpec Tryz.prog 6 [rcs l, .agg w.c] (.bool true) := by
  have hll := hl.lw
  refine PSpec.byE Tryz.func6 rfl Tryz.ntmps6 [] [] rfl fun A => ?_
  (conv => whnf)
  refine CK.pure ent8 head_ok (Subs.refl _) ?_
  (conv => whnf)
  refine CK.bool ent9 (lawFewM l hll.to0 w) (Subs.refl _) (fun hf => ?_) (fun hf => ?_) <;> (conv => whnf)
  rotate_left
  · exact FK.eq rfl
  have h20 : l.length ≤ 20 := by
    unfold fewM rcsFew at hf
    simp only [Bool.and_eq_true, decide_eq_true_eq] at hf
    omega
  refine LK.mk (ι := {x : Option Nat × Nat // x.2 ≤ l.length ∧ ∀ b, x.1 = some b → ¬ A.mut b}) (fun x => [(0, .v (rcs l)), (3, .lp 0 0), (5, .v (.bool true)), (6, .v (.os 21 x.1.1 (bareL (l.take x.1.2)).length ((bareL (l.take x.1.2)).map Rc.c))), (7, .v (.int .i64 x.1.2))]) (fun _ => [w.c]) (fun x => A.tok x.1.1 21 (bareL (l.take x.1.2)).length) (fun x => l.length - x.1.2) ⟨(none, 0), Nat.zero_le _, fun b hb => by cases hb⟩ ?_ ?_
  · exact ⟨⟨Sub.refl _, ⟨rfl, rfl, Nat.le_of_ble_eq_true rfl⟩, Sub.refl _, Sub.os_sz, Sub.refl _, trivial⟩, ⟨Subs.refl _, trivial⟩, AO.le.refl _⟩
  rintro ⟨⟨ob, k⟩, hk, ho⟩
  dsimp only at hk ho
  (conv => whnf)
  refine BK.dec (fun h => ?_) (fun h => ?_) <;> (conv => whnf)
  · have hk' : k < l.length := by have : (k : Int) < l.length := h; omega
    have hbs := bare_step hk'
    have hbl := bare_le (l.take k)
    rw [List.length_take] at hbl
    refine RK.mk k _ rfl (map_get hk') ?_
    (conv => whnf)
    refine BK.ne (fun h3 => ?_) (fun h3 => ?_) <;> (conv => whnf)
    · rw [if_neg (show ¬ l[k].Kind = 3 from h3)] at hbs
      refine RK.mk k _ rfl (map_get hk') ?_
      (conv => whnf)
      refine AK.one (x := l[k].c) (by kernel_rfl) rfl (by rw [List.length_map]) (.inr rfl) tok_at ?_ ?_
      · show ((bareL (l.take k)).length + 1) * 337 ≤ 70368744177664
        omega
      intro o2 A2 h2
      (conv => whnf)
      refine IK.in64 (by omega) (by omega) ?_
      (conv => whnf)
      have el : (bareL (l.take (k + 1))).length = (bareL (l.take k)).length + 1 := by rw [hbs]; simp
      refine ⟨⟨(o2, k + 1), hk', tok_fresh ho (After.or h2)⟩, ⟨⟨Sub.refl _, ⟨rfl, rfl, Nat.le_of_ble_eq_true rfl⟩, Sub.refl _, Sub.trans (Sub.eq (b := .os 21 o2 ((bareL (l.take k)).length + 1) ((bareL (l.take k)).map Rc.c ++ [l[k].c])) (by kernel_rfl)) (Sub.eq ?_), Sub.refl _, trivial⟩, ⟨Subs.refl _, trivial⟩, ?_⟩, by simp; omega⟩
      · show _ = AV.os 21 o2 (bareL (l.take (k + 1))).length ((bareL (l.take (k + 1))).map Rc.c)
        rw [el, hbs, List.map_append]; rfl
      · show A2.le (A.tok o2 21 (bareL (l.take (k + 1))).length)
        rw [el]; exact After.le ho h2
    · rw [if_pos (show l[k].Kind = 3 from h3), List.append_nil] at hbs
      refine IK.in64 (by omega) (by omega) ?_
      (conv => whnf)
      refine ⟨⟨(ob, k + 1), hk', ho⟩, ⟨⟨Sub.refl _, ⟨rfl, rfl, Nat.le_of_ble_eq_true rfl⟩, Sub.refl _, Sub.eq ?_, Sub.refl _, trivial⟩, ⟨Subs.refl _, trivial⟩, ?_⟩, by simp; omega⟩
      · show AV.os 21 ob (bareL (l.take k)).length ((bareL (l.take k)).map Rc.c) = AV.os 21 ob (bareL (l.take (k + 1))).length ((bareL (l.take (k + 1))).map Rc.c)
        rw [hbs]
      · show (A.tok ob 21 (bareL (l.take k)).length).le (A.tok ob 21 (bareL (l.take (k + 1))).length)
        rw [hbs]; exact AO.le.refl _
  · have hk' : k = l.length := by have : ¬ (k : Int) < l.length := h; omega
    subst hk'
    have hb6 : Sub (.os 21 ob (bareL (l.take l.length)).length ((bareL (l.take l.length)).map Rc.c)) (rcs (bareL l)) := by
      rw [List.take_length]; exact Sub.os_sl (by simp)
    have hbw := bare_lw hl
    have hbl := bare_le l
    have hex := entries_ew [] (l := l) hl.one
    have hea := entries_len [] l
    refine CK.pure ent13 (status_to hbw (by omega) hw (bare_entries w.ms l)) (Subs.cons hb6 (Subs.refl _)) ?_
    (conv => whnf)
    refine CK.pure ent13 (status_to (w := ⟨w.a0, w.a1, [], w.a3, w.a4, w.a5⟩) hll (by omega) (Nat.zero_le _) rfl) (Subs.cons (Sub.refl _) (Subs.cons (Sub.agg (Subs.cons (Sub.refl _) (Subs.cons (Sub.refl _) (Subs.cons Sub.os_sl0 (Subs.refl _))))) .nil)) ?_
    (conv => whnf)
    refine NM.mk fun m hm => ?_
    have hmA : ¬ A.mut m := fun h => hm ((tok_le (sz := 21) (e := (bareL (l.take l.length)).length) ho).mut h)
    (conv => whnf)
    refine LK.mk (ι := {i : Nat // i ≤ (bareL l).length}) (fun i => [(5, .v (.bool true)), (6, .v (rcs (bareL l))), (8, .v (sts (entriesP [] l))), (9, .v (sts (entriesP [] l))), (10, .v (.int .i64 (entriesP [] ((bareL l).take i.1)).length)), (11, .v (.map m)), (12, .v (.int .i64 i.1))]) (fun _ => []) (fun i => (A.tok ob 21 (bareL (l.take l.length)).length).setMap m (mapT (entriesP [] ((bareL l).take i.1)))) (fun i => (bareL l).length - i.1) ⟨0, Nat.zero_le _⟩ ?_ ?_
    · exact ⟨⟨Sub.refl _, hb6, Sub.refl _, Sub.refl _, Sub.refl _, Sub.refl _, Sub.refl _, trivial⟩, trivial, AO.le.refl _⟩
    rintro ⟨i, hi⟩
    (conv => whnf)
    refine BK.dec (fun h => ?_) (fun h => ?_) <;> (conv => whnf)
    · have hi' : i < (bareL l).length := by have : (i : Int) < (bareL l).length := h; omega
      have hri := hbw.one _ (List.getElem_mem hi')
      have hst := entries_step [] hi'
      have hlen := entries_len [] ((bareL l).take i)
      rw [List.length_take] at hlen
      refine RK.mk i _ rfl (map_get hi') ?_
      (conv => whnf)
      refine CK.pure ent18 (id_ok (bareL l)[i] hri) (Subs.refl _) ?_
      (conv => whnf)
      refine RK.mk i _ rfl (map_get hi') ?_
      (conv => whnf)
      have same : stepE [] (entriesP [] ((bareL l).take i)) (bareL l)[i] = entriesP [] ((bareL l).take i) → ∀ {tm : TM} {own : OW}, look tm 5 = some (.v (.bool true)) → look tm 6 = some (.v (rcs (bareL l))) → look tm 8 = some (.v (sts (entriesP [] l))) → look tm 9 = some (.v (sts (entriesP [] l))) → look tm 10 = some (.v (.int .i64 (entriesP [] ((bareL l).take i)).length)) → look tm 11 = some (.v (.map m)) → look tm 12 = some (.v (.int .i64 ((i : Int) + 1))) →
          ∃ j : {i : Nat // i ≤ (bareL l).length}, Le tm own ((A.tok ob 21 (bareL (l.take l.length)).length).setMap m (mapT (entriesP [] ((bareL l).take i)))) [(5, .v (.bool true)), (6, .v (rcs (bareL l))), (8, .v (sts (entriesP [] l))), (9, .v (sts (entriesP [] l))), (10, .v (.int .i64 (entriesP [] ((bareL l).take j.1)).length)), (11, .v (.map m)), (12, .v (.int .i64 j.1))] [] ((A.tok ob 21 (bareL (l.take l.length)).length).setMap m (mapT (entriesP [] ((bareL l).take j.1)))) ∧ (bareL l).length - j.1 < (bareL l).length - i := by
        intro hs tm own h5 h6 h8 h9 h10 h11 h12
        rw [hs] at hst
        refine ⟨⟨i + 1, hi'⟩, ⟨⟨?_, ?_, ?_, ?_, ?_, ?_, ?_, trivial⟩, (by cases own <;> trivial), by rw [hst]; exact AO.le.refl _⟩, by simp; omega⟩
        · rw [h5]; exact Sub.refl _
        · rw [h6]; exact Sub.refl _
        · rw [h8]; exact Sub.refl _
        · rw [h9]; exact Sub.refl _
        · rw [h10, hst]; exact Sub.refl _
        · rw [h11]; exact Sub.refl _
        · rw [h12]; exact Sub.refl _
      refine BK.ne (fun h1 => ?_) (fun h1 => ?_) <;> (conv => whnf)
      · refine IK.in64 (by omega) (by omega) ?_
        (conv => whnf)
        refine same ?_ rfl rfl rfl rfl rfl rfl rfl
        have h3 : (bareL l)[i].Kind ≠ 3 := by simpa using (List.mem_filter.1 (List.getElem_mem hi')).2
        exact step_idle h1 (fun h => absurd h h3)
      · have h1 : (bareL l)[i].Kind = 1 := h1
        by_cases hin : ∃ e ∈ entriesP [] ((bareL l).take i), e.id = idP (bareL l)[i]
        · obtain ⟨j, hj⟩ := mfindT_yes _ _ 0 hin
          refine MK.mk _ _ setMap_at hj ?_
          (conv => whnf)
          refine IK.in64 (by omega) (by omega) ?_
          (conv => whnf)
          refine same ?_ rfl rfl rfl rfl rfl rfl rfl
          unfold stepE; rw [if_pos h1, if_pos hin]
        · have hno : ∀ e ∈ entriesP [] ((bareL l).take i), e.id ≠ idP (bareL l)[i] := fun e he hs => hin ⟨e, he, hs⟩
          have hnew := step_new (ms := []) h1 hno
          rw [hnew] at hst
          have hat := entries_at hi' hst
          rw [bare_bare] at hat
          have hka : (entriesP [] ((bareL l).take i)).length < (entriesP [] l).length := (List.getElem?_eq_some_iff.1 hat).1
          refine MK.mk _ none setMap_at (mfindT_no _ _ _ hno) ?_
          (conv => whnf)
          refine MK.mk _ none setMap_at (mfindT_no _ _ _ hno) ?_
          (conv => whnf)
          refine BK.is (c := false) (decide_eq_false (by show ¬ ((entriesP [] ((bareL l).take i)).length : Int) ≥ ((entriesP [] l).length : Nat); omega)) ?_
          (conv => whnf)
          refine RK.mk (entriesP [] ((bareL l).take i)).length (⟨(bareL l)[i].Edits, idP (bareL l)[i], 1, [], (bareL l)[i].Edits⟩ : En).s rfl (by rw [List.getElem?_map, hat]; rfl) ?_
          (conv => whnf)
          refine RK.mk i _ rfl (map_get hi') ?_
          (conv => whnf)
          refine PK.mk ent15 (refSt (⟨(bareL l)[i].Edits, idP (bareL l)[i], 1, [], (bareL l)[i].Edits⟩ : En) (⟨(bareL l)[i].Edits, idP (bareL l)[i], 1, [], (bareL l)[i].Edits⟩ : En) ⟨hri.edits, hri.edit, hri.edits, hri.edit⟩) (Subs.refl _) ?_
          rw [decide_eq_true rfl]
          (conv => whnf)
          refine NK.mk (by kernel_rfl) ?_
          (conv => whnf)
          refine IK.in64 (by dsimp only; omega) (by dsimp only; omega) ?_
          (conv => whnf)
          refine IK.in64 (by omega) (by omega) ?_
          (conv => whnf)
          refine ⟨⟨i + 1, hi'⟩, ⟨⟨Sub.refl _, Sub.refl _, Sub.refl _, Sub.refl _, Sub.eq ?_, Sub.refl _, Sub.refl _, trivial⟩, trivial, ?_⟩, by simp; omega⟩
          · show AV.int .i64 (((entriesP [] ((bareL l).take i)).length : Int) + 1) = AV.int .i64 ((entriesP [] ((bareL l).take (i + 1))).length : Nat)
            rw [hst]; simp
          · show AO.le (AO.setMap (AO.setMap _ m _) m (mapT (entriesP [] ((bareL l).take i)) ++ [_])) (AO.setMap _ m (mapT (entriesP [] ((bareL l).take (i + 1)))))
            rw [setMap_twice, hst]
            have : mapT (entriesP [] ((bareL l).take i) ++ [(⟨(bareL l)[i].Edits, idP (bareL l)[i], 1, [], (bareL l)[i].Edits⟩ : En)]) = mapT (entriesP [] ((bareL l).take i)) ++ [(.str (idP (bareL l)[i]), .bool true)] := by simp [mapT]
            rw [this]; exact AO.le.refl _
    · have hi' : i = (bareL l).length := by have : ¬ (i : Int) < (bareL l).length := h; omega
      subst hi'
      have he : (entriesP [] ((bareL l).take (bareL l).length)).length = (entriesP [] l).length := by rw [List.take_length, bare_bare]
      refine BK.is (c := true) (beq_iff_eq.2 (by show ((entriesP [] ((bareL l).take (bareL l).length)).length : Int) = ((entriesP [] l).length : Nat); rw [he])) ?_
      (conv => whnf)
      refine CK.pure ent12 (refSts (entriesP [] l) (entriesP [] l) (by omega) hex) (Subs.refl _) ?_
      rw [decide_eq_true rfl]
      (conv => whnf)
      exact FK.weak (Sub.refl _) (le_setMap (tok_le ho) hmA)
end Ab
end Go.Proofs.YtpmigkbcldffeaaGreatDoor
