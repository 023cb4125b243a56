/- moderate: entries. -/
import Derived.Test.YtpmigkbcldffeaaGreatDoorC9
set_option linter.unusedVariables false
set_option linter.unusedSimpArgs false
set_option linter.unusedSectionVars false
namespace Go.Proofs.YtpmigkbcldffeaaGreatDoor
namespace Ab
open Go.RowKit Go.Shelf Go.Lib
set_option maxRecDepth 10000
def idxF : List Int → Int → Nat → Int
  | [], _, _ => -1
  | x :: r, n, k => if n = x then k else idxF r n (k + 1)
theorem idxF_in : ∀ (l : List Int) (n : Int) (k : Nat), 0 ≤ idxF l n k ↔ n ∈ l
  | [], n, k => by simp [idxF]
  | x :: r, n, k => by
    unfold idxF
    by_cases h : n = x
    · rw [if_pos h]; simp [h]
    · rw [if_neg h, idxF_in r n (k + 1)]; simp [h]
theorem index_ints (l : List Int) (n : Int) (h0 : l.length ≤ 140737488355328) : PSpec Tryz.prog 62 [ints l, .int .i64 n] (.int .i64 (idxF l n 0)) := by
  refine PSpec.by Tryz.func62 rfl Tryz.ntmps62 [] rfl fun A => ?_
  (conv => whnf)
  refine LK.mk (ι := {k : Nat // k ≤ l.length ∧ idxF (l.drop k) n k = idxF l n 0}) (fun k => [(0, .v (ints l)), (1, .v (.int .i64 n)), (7, .v (.int .i64 l.length)), (8, .v (.int .i64 k.1))]) (fun _ => []) (fun _ => A) (fun k => l.length - k.1) ⟨0, Nat.zero_le _, rfl⟩ ?_ ?_
  · exact ⟨⟨Sub.refl _, Sub.refl _, Sub.refl _, Sub.refl _, trivial⟩, trivial, AO.le.refl _⟩
  rintro ⟨k, hk, hx⟩
  (conv => whnf)
  refine BK.dec (fun h => ?_) (fun h => ?_) <;> (conv => whnf)
  · have hk' : k < l.length := by have : (k : Int) < l.length := h; omega
    rw [List.drop_eq_getElem_cons hk', show idxF (l[k] :: l.drop (k + 1)) n k = if n = l[k] then (k : Int) else idxF (l.drop (k + 1)) n (k + 1) from rfl] at hx
    refine RK.mk k _ rfl (map_get hk') ?_
    (conv => whnf)
    refine BK.eq (fun h => ?_) (fun h => ?_) <;> (conv => whnf)
    · rw [if_pos h] at hx
      exact FK.eq (congrArg (AV.int .i64) hx)
    · rw [if_neg h] at hx
      repeat' ((first | (refine BK.dec (fun h => ?_) (fun h => ?_)) | (refine BK.ne (fun h => ?_) (fun h => ?_)) | (refine BK.eq (fun h => ?_) (fun h => ?_)) | (refine BK.mk (fun h => ?_) (fun h => ?_)) | (refine IK.in64 (by first | omega | (dsimp only; omega)) (by first | omega | (dsimp only; omega)) ?_) | (refine NK.mk (by kernel_rfl) ?_)) <;> (conv => whnf))
      exact ⟨⟨k + 1, hk', hx⟩, ⟨⟨Sub.refl _, Sub.refl _, Sub.refl _, Sub.refl _, trivial⟩, trivial, AO.le.refl _⟩, by simp; omega⟩
  · have hk' : k = l.length := by have : ¬ (k : Int) < l.length := h; omega
    subst hk'
    rw [List.drop_length] at hx
    exact FK.eq (congrArg (AV.int .i64) hx)
theorem contains_ints (l : List Int) (n : Int) (h0 : l.length ≤ 140737488355328) : PSpec Tryz.prog 33 [ints l, .int .i64 n] (.bool (decide (n ∈ l))) := by
  refine PSpec.by Tryz.func33 rfl Tryz.ntmps33 [] rfl fun A => ?_
  (conv => whnf)
  refine CK.pure ent62 (index_ints l n h0) (Subs.refl _) ?_
  (conv => whnf)
  refine BK.dec (fun h => ?_) (fun h => ?_) <;> (conv => whnf)
  · exact FK.eq (b_eq (by rw [decide_eq_true ((idxF_in l n 0).1 h)]))
  · exact FK.eq (b_eq (by rw [decide_eq_false (fun hh => h ((idxF_in l n 0).2 hh))]))
/-- The state that an order gives. -/
def stOf (o : Int) : Int := if o = 1 then 1 else if o = 2 then 2 else if o = 3 then 1 else if o = 4 then 3 else 0
theorem stateOf_ok (o : Int) : PSpec Tryz.prog 63 [.int .i64 o] (.tup [.int .i64 (stOf o), .bool (inR o 1 4)]) := by
  have no : (o < 1 ∨ 5 ≤ o) → stOf o = 0 ∧ inR o 1 4 = false := fun h => by
    refine ⟨by unfold stOf; rw [if_neg (by omega), if_neg (by omega), if_neg (by omega), if_neg (by omega)], ?_⟩
    unfold inR
    rw [Bool.and_eq_false_iff, decide_eq_false_iff_not, decide_eq_false_iff_not]
    omega
  refine PSpec.by Tryz.func63 rfl Tryz.ntmps63 [] rfl fun A => ?_
  (conv => whnf)
  refine BK.dec (fun h => ?_) (fun h => ?_) <;> (conv => whnf)
  · obtain ⟨e1, e2⟩ := no (.inl h)
    exact FK.eq (by rw [e1, e2]; rfl)
  refine BK.dec (fun h2 => ?_) (fun h2 => ?_) <;> (conv => whnf)
  · obtain ⟨e1, e2⟩ := no (.inr h2)
    exact FK.eq (by rw [e1, e2]; rfl)
  have h : ¬ o < 1 := h
  have h2 : ¬ o ≥ 5 := h2
  have ho : o = 1 ∨ o = 2 ∨ o = 3 ∨ o = 4 := by omega
  rcases ho with rfl | rfl | rfl | rfl <;> (refine NK.mk (by decide) ?_; (conv => whnf); exact FK.eq rfl)
/-- A change set with its status. -/
structure En where
  own : List Ed
  id : Str
  state : Int
  by_ : Str
  edits : List Ed
  deriving DecidableEq
def En.c (e : En) : List AV := [eds e.own, .str e.id, .int .i64 e.state, .str e.by_, eds e.edits]
def obeyE (e : En) (r : Rc) : En :=
  match inR r.Order 1 4 with
  | false => e
  | true => { e with state := stOf r.Order, by_ := idP r, edits := if r.Order = 3 then r.Edits else e.own }
theorem setRow_id {A : AO} {p : Nat} {cs : List AV} (h : A.rows p = some cs) : A.setRow p cs = A :=
  AO.ext' (fun q => by show (if q = p then _ else _) = _; by_cases e : q = p; rw [if_pos e, e, h]; rw [if_neg e]) (fun _ => rfl) (fun _ => rfl) (fun _ => rfl)
set_option maxHeartbeats 1000000 in
theorem obey_ok (e : En) (r : Rc) (hr : r.wf) (p : Nat) (A : AO) (hA : A.rows p = some e.c) :
    ASpec Tryz.prog 34 [.gp p 0, .agg r.c] A (fun v B => v = .tup [] ∧ B = A.setRow p (obeyE e r).c) := by
  refine ASpec.byE Tryz.func34 rfl Tryz.ntmps34 [] [1000000] rfl ?_
  (conv => whnf)
  refine CK.pure ent63 (stateOf_ok r.Order) (Subs.refl _) ?_
  cases ho : inR r.Order 1 4 <;> (conv => whnf)
  · exact FK.mk (Sub.refl _) (AO.le.refl _) ⟨rfl, by unfold obeyE; rw [ho]; exact (setRow_id hA).symm⟩
  · refine PK.mk ent18 (id_ok r hr) (Subs.refl _) ?_
    (conv => whnf)
    refine GK.mk _ hA ?_
    (conv => whnf)
    repeat' ((first | (refine BK.dec (fun h => ?_) (fun h => ?_)) | (refine BK.ne (fun h => ?_) (fun h => ?_)) | (refine BK.eq (fun h => ?_) (fun h => ?_)) | (refine BK.mk (fun h => ?_) (fun h => ?_)) | (refine IK.in64 (by first | omega | (dsimp only; omega)) (by first | omega | (dsimp only; omega)) ?_) | (refine NK.mk (by kernel_rfl) ?_)) <;> (conv => whnf))
    refine GK.mk _ hA ?_
    (conv => whnf)
    refine GK.mk _ setRow_at ?_
    (conv => whnf)
    refine GK.mk _ setRow_at ?_
    (conv => whnf)
    refine BK.eq (fun h3 => ?_) (fun h3 => ?_) <;> (conv => whnf)
    · refine GK.mk _ setRow_at ?_
      (conv => whnf)
      refine FK.mk (Sub.refl _) (AO.le.refl _) ⟨rfl, ?_⟩
      show (((A.setRow p _).setRow p _).setRow p _).setRow p _ = _
      rw [setRow_twice, setRow_twice, setRow_twice]
      unfold obeyE; rw [ho]
      show _ = A.setRow p [_, _, _, _, eds (if r.Order = 3 then r.Edits else e.own)]
      rw [if_pos (show r.Order = 3 from h3)]; rfl
    · refine FK.mk (Sub.refl _) (AO.le.refl _) ⟨rfl, ?_⟩
      show ((A.setRow p _).setRow p _).setRow p _ = _
      rw [setRow_twice, setRow_twice]
      unfold obeyE; rw [ho]
      show _ = A.setRow p [_, _, _, _, eds (if r.Order = 3 then r.Edits else e.own)]
      rw [if_neg (show ¬ r.Order = 3 from h3)]; rfl
/-- One record more. -/
def stepE (ms : List Int) (es : List En) (r : Rc) : List En :=
  if r.Kind = 1 then (if ∃ e ∈ es, e.id = idP r then es else es ++ [⟨r.Edits, idP r, 1, [], r.Edits⟩])
  else if r.Kind = 3 ∧ r.Author ∈ ms then es.map (fun e => if e.id = r.Target then obeyE e r else e)
  else es
def entriesP (ms : List Int) (l : List Rc) : List En := l.foldl (stepE ms) []
theorem entries_step (ms : List Int) {l : List Rc} {k : Nat} (h : k < l.length) : entriesP ms (l.take (k + 1)) = stepE ms (entriesP ms (l.take k)) l[k] := by
  unfold entriesP; rw [List.take_succ_eq_append_getElem h, List.foldl_append]; rfl
theorem obey_id (e : En) (r : Rc) : (obeyE e r).id = e.id := by unfold obeyE; split <;> rfl
def idsE (es : List En) : List Str := es.map En.id
theorem ids_obey (es : List En) (r : Rc) : idsE (es.map (fun e => if e.id = r.Target then obeyE e r else e)) = idsE es := by
  unfold idsE
  rw [List.map_map]
  refine List.map_congr_left fun e _ => ?_
  simp only [Function.comp]
  split
  · exact obey_id e r
  · rfl
theorem step_nodup {ms : List Int} {es : List En} {r : Rc} (h : (idsE es).Nodup) : (idsE (stepE ms es r)).Nodup := by
  unfold stepE
  split
  · split
    · exact h
    · rename_i hn
      unfold idsE
      rw [List.map_append]
      refine List.nodup_append.2 ⟨h, by simp, fun a ha b hb e => ?_⟩
      obtain ⟨x, hx, rfl⟩ := List.mem_map.1 ha
      have : b = idP r := by simpa using hb
      exact hn ⟨x, hx, e.trans this⟩
  · split
    · rw [ids_obey]; exact h
    · exact h
theorem entries_nodup (ms : List Int) (l : List Rc) : (idsE (entriesP ms l)).Nodup := by
  have key : ∀ (l : List Rc) (es : List En), (idsE es).Nodup → (idsE (l.foldl (stepE ms) es)).Nodup := fun l => by
    induction l with
    | nil => exact fun es h => h
    | cons r l ih => exact fun es h => ih _ (step_nodup h)
  exact key l [] (by simp [idsE])
theorem step_len (ms : List Int) (es : List En) (r : Rc) : (stepE ms es r).length ≤ es.length + 1 := by
  unfold stepE
  split
  · split
    · omega
    · simp
  · split
    · simp
    · omega
theorem entries_len (ms : List Int) (l : List Rc) : (entriesP ms l).length ≤ l.length := by
  have key : ∀ (l : List Rc) (es : List En), (l.foldl (stepE ms) es).length ≤ es.length + l.length := fun l => by
    induction l with
    | nil => exact fun es => by simp
    | cons r l ih =>
      intro es
      have h1 := ih (stepE ms es r)
      have h2 := step_len ms es r
      simp only [List.foldl_cons, List.length_cons]
      omega
  have := key l []
  simpa [entriesP] using this
theorem map_set {es : List En} (h : (idsE es).Nodup) {j : Nat} (hj : j < es.length) {s : Str} (hs : es[j].id = s) (f : En → En) : es.map (fun e => if e.id = s then f e else e) = es.set j (f es[j]) := by
  apply List.ext_getElem
  · simp
  · intro i h1 h2
    have hi : i < es.length := by simpa using h1
    rw [List.getElem_map, List.getElem_set]
    by_cases e : j = i
    · subst e; rw [if_pos hs, if_pos rfl]
    · rw [if_neg e, if_neg]
      intro hh
      have hn := List.pairwise_iff_getElem.1 (show (idsE es).Pairwise (· ≠ ·) from h)
      rcases Nat.lt_or_gt_of_ne e with h' | h'
      · exact hn j i (by simpa [idsE] using hj) (by simpa [idsE] using hi) h' (by simp [idsE, hs, hh])
      · exact hn i j (by simpa [idsE] using hi) (by simpa [idsE] using hj) h' (by simp [idsE, hs, hh])
/-! ### The map of entries -/
def mapE : List En → List Nat → List (AV × AV)
  | e :: es, p :: ps => (.str e.id, .gp p 0) :: mapE es ps
  | _, _ => []
theorem mfind_no (s : Str) : ∀ (es : List En) (ps : List Nat) (i : Nat), (∀ e ∈ es, e.id ≠ s) → mfind (.str s) (mapE es ps) i = some none
  | [], _, _, _ => by unfold mapE; rfl
  | e :: es, [], _, _ => by unfold mapE; rfl
  | e :: es, p :: ps, i, h => by
    unfold mapE mfind
    have : (keyEq (.str s) (.str e.id)) = some false := by
      unfold keyEq
      simp only [Option.some.injEq, beq_eq_false_iff_ne]
      exact fun hh => h e (by simp) hh.symm
    rw [this]
    exact mfind_no s es ps (i + 1) (fun x hx => h x (List.mem_cons_of_mem _ hx))
theorem mfind_yes (s : Str) : ∀ (es : List En) (ps : List Nat) (i j : Nat) (hj : j < es.length) (hp : j < ps.length), es[j].id = s → (idsE es).Nodup → mfind (.str s) (mapE es ps) i = some (some (i + j, .gp ps[j] 0))
  | [], _, _, j, hj, _, _, _ => absurd hj (Nat.not_lt_zero j)
  | e :: es, [], _, j, _, hp, _, _ => absurd hp (Nat.not_lt_zero j)
  | e :: es, p :: ps, i, 0, _, _, h, _ => by
    unfold mapE mfind
    have : (keyEq (.str s) (.str e.id)) = some true := by
      unfold keyEq
      simp only [Option.some.injEq, beq_iff_eq]
      exact (show e.id = s from h).symm
    rw [this]; rfl
  | e :: es, p :: ps, i, j + 1, hj, hp, h, hn => by
    have hn' := List.nodup_cons.1 (show (e.id :: idsE es).Nodup from hn)
    have hj' : j < es.length := by simpa using hj
    have h' : es[j].id = s := by simpa using h
    unfold mapE mfind
    have : (keyEq (.str s) (.str e.id)) = some false := by
      unfold keyEq
      simp only [Option.some.injEq, beq_eq_false_iff_ne]
      intro hh
      refine hn'.1 (List.mem_map.2 ⟨es[j], List.getElem_mem hj', ?_⟩)
      rw [h', hh]
    rw [this]
    have ih := mfind_yes s es ps (i + 1) j hj' (by simpa using hp) h' hn'.2
    show mfind _ _ (i + 1) = _
    rw [ih]
    simp only [List.getElem_cons_succ]
    congr 3
    omega
theorem mapE_snoc : ∀ (es : List En) (ps : List Nat) (e : En) (p : Nat), ps.length = es.length → mapE (es ++ [e]) (ps ++ [p]) = mapE es ps ++ [(.str e.id, .gp p 0)]
  | [], [], _, _, _ => by simp [mapE]
  | [], _ :: _, _, _, h => by simp at h
  | _ :: _, [], _, _, h => by simp at h
  | x :: es, q :: ps, e, p, h => by simp only [List.cons_append, mapE]; rw [mapE_snoc es ps e p (by simpa using h)]
theorem mapE_ids : ∀ (es es' : List En) (ps : List Nat), idsE es = idsE es' → mapE es ps = mapE es' ps
  | [], [], _, _ => rfl
  | [], _ :: _, _, h => by simp [idsE] at h
  | _ :: _, [], _, h => by simp [idsE] at h
  | x :: es, y :: es', [], _ => by simp [mapE]
  | x :: es, y :: es', p :: ps, h => by
    have h2 : x.id = y.id ∧ idsE es = idsE es' := by simpa [idsE] using h
    simp only [mapE]; rw [h2.1, mapE_ids es es' ps h2.2]
theorem nodup_inj {α : Type} {l : List α} (h : l.Nodup) {i j : Nat} (hi : i < l.length) (hj : j < l.length) (e : l[i] = l[j]) : i = j := by
  have hn := List.pairwise_iff_getElem.1 (show l.Pairwise (· ≠ ·) from h)
  rcases Nat.lt_trichotomy i j with h' | h' | h'
  · exact absurd e (hn i j hi hj h')
  · exact h'
  · exact absurd e.symm (hn j i hj hi h')
/-- What is known of the entries. -/
structure EI (A B : AO) (es : List En) (ps : List Nat) (m : Nat) (ob : Option Nat) : Prop where
  le : B.le A
  len : ps.length = es.length
  rows : ∀ j (h : j < es.length) (h' : j < ps.length), B.rows ps[j] = some es[j].c
  map : B.maps m = some (mapE es ps)
  nd : ps.Nodup
  fresh : ∀ p ∈ ps, ¬ A.mut p
  mf : ¬ A.mut m
  of_ : ∀ b, ob = some b → ¬ A.mut b ∧ B.toks b = some (1, ps.length)
theorem EI.mut {A B : AO} {es : List En} {ps : List Nat} {m : Nat} {ob : Option Nat} (h : EI A B es ps m ob) {p : Nat} (hp : ¬ B.mut p) : ¬ A.mut p ∧ p ∉ ps ∧ p ≠ m := by
  refine ⟨fun hm => hp (h.le.mut hm), fun hi => ?_, fun e => ?_⟩
  · obtain ⟨j, hj, rfl⟩ := List.mem_iff_getElem.1 hi
    exact hp (.inl (by rw [h.rows j (by rw [← h.len]; exact hj) hj]; simp))
  · subst e; exact hp (.inr (.inr (.inl (by rw [h.map]; simp))))
def ptrs (ps : List Nat) : List (List AV) := ps.map fun p => [.gp p 0]
/-- An entry is obeyed. -/
theorem EI.obey {A B : AO} {es : List En} {ps : List Nat} {m : Nat} {ob : Option Nat} (h : EI A B es ps m ob) {j : Nat} (hj : j < es.length) (hp : j < ps.length) (e : En) (he : e.id = es[j].id) : EI A (B.setRow ps[j] e.c) (es.set j e) ps m ob := by
  have hf := h.fresh _ (List.getElem_mem hp)
  refine ⟨le_setRow h.le hf, by rw [List.length_set]; exact h.len, fun i hi hi' => ?_, ?_, h.nd, h.fresh, h.mf, h.of_⟩
  · have hi : i < es.length := by simpa using hi
    show (if ps[i] = ps[j] then some e.c else B.rows ps[i]) = _
    rw [List.getElem_set]
    by_cases e1 : j = i
    · subst e1; rw [if_pos rfl, if_pos rfl]
    · rw [if_neg e1, if_neg (fun hh => e1 (nodup_inj h.nd hi' hp hh).symm)]; exact h.rows i hi hi'
  · show B.maps m = _
    rw [h.map]
    refine congrArg some (mapE_ids _ _ _ ?_)
    unfold idsE
    rw [List.map_set, he]
    apply List.ext_getElem?
    intro i
    rw [List.getElem?_set]
    by_cases e1 : j = i
    · subst e1; simp [hj]
    · simp [e1]
/-- An entry is added. -/
theorem EI.add {A B B1 : AO} {es : List En} {ps : List Nat} {m p : Nat} {ob ob' : Option Nat} {T T' : TypeId} (h : EI A B es ps m ob) (hp : ¬ B.mut p) (e : En)
    (ha : After ((B.setTy p T).setRow p e.c) ob ob' 1 (ps.length + 1) T' B1) : EI A (B1.setMap m (mapE es ps ++ [(.str e.id, .gp p 0)])) (es ++ [e]) (ps ++ [p]) m ob' := by
  obtain ⟨f1, f2, f3⟩ := h.mut hp
  have hrows : B1.rows = ((B.setTy p T).setRow p e.c).rows := ha.rows
  have hle0 : ((B.setTy p T).setRow p e.c).le A := le_setRow (le_setTy h.le f1) f1
  have hob : ∀ b, ob' = some b → ¬ A.mut b := fun b hb => by
    rcases ha.or with h' | ⟨q, h', hq⟩
    · exact (h.of_ b (h'.symm.trans hb)).1
    · rw [hb] at h'; injection h' with h'; subst h'
      exact fun hm => hq (hle0.mut hm)
  have hle : B1.le A := by
    have k1 : ∀ (X : AO), X.le A → (X.kill ob).le A := fun X hX => by
      cases ob with
      | none => exact hX
      | some b =>
        refine ⟨hX.rows, fun q x hq => ?_, hX.maps, hX.tys⟩
        have : q ≠ b := fun e => (h.of_ b rfl).1 (.inr (.inl (by rw [← e, hq]; simp)))
        show (if q = b then none else X.toks q) = some x
        rw [if_neg this]; exact hX.toks q x hq
    have k2 : ∀ (X : AO) (n : Nat), X.le A → (X.tok ob' 1 n).le A := fun X n hX => by
      cases ob' with
      | none => exact hX
      | some b =>
        refine ⟨hX.rows, fun q x hq => ?_, hX.maps, hX.tys⟩
        have : q ≠ b := fun e => hob b rfl (.inr (.inl (by rw [← e, hq]; simp)))
        show (if q = b then some (1, n) else X.toks q) = some x
        rw [if_neg this]; exact hX.toks q x hq
    rcases ha with ⟨_, rfl⟩ | ⟨q, hq0, hq, rfl⟩
    · exact k2 _ _ (k1 _ hle0)
    · exact le_setTy (k2 _ _ (k1 _ hle0)) (hob q hq0)
  refine ⟨le_setMap hle h.mf, by simp [h.len], fun j hj hj' => ?_, ?_, ?_, ?_, h.mf, fun b hb => ⟨hob b hb, ?_⟩⟩
  · show B1.rows _ = _
    rw [hrows]
    show (if (ps ++ [p])[j] = p then some e.c else B.rows (ps ++ [p])[j]) = _
    by_cases e1 : j < es.length
    · have e2 : j < ps.length := by rw [h.len]; exact e1
      rw [List.getElem_append_left e2, List.getElem_append_left e1, if_neg (fun hh => f2 (by rw [← hh]; exact List.getElem_mem e2))]
      exact h.rows j e1 e2
    · have e2 : ¬ j < ps.length := by rw [h.len]; exact e1
      have e3 : j = es.length := by simp at hj; omega
      rw [List.getElem_append_right (by omega), List.getElem_append_right (by omega)]
      simp
  · show (if m = m then some _ else B1.maps m) = _
    rw [if_pos rfl, mapE_snoc _ _ _ _ h.len]
  · refine List.nodup_append.2 ⟨h.nd, by simp, fun a ha b hb hh => f2 ?_⟩
    have : b = p := by simpa using hb
    rw [← this, ← hh]; exact ha
  · intro q hq
    rcases List.mem_append.1 hq with hq | hq
    · exact h.fresh q hq
    · have : q = p := by simpa using hq
      subst this; exact f1
  · show B1.toks b = some (1, (ps ++ [p]).length)
    rw [show (ps ++ [p]).length = ps.length + 1 by simp]
    rcases ha with ⟨_, rfl⟩ | ⟨q, hq0, hq, rfl⟩
    · subst hb; show (if b = b then _ else _) = _; rw [if_pos rfl]
    · subst hb; show (if b = b then _ else _) = _; rw [if_pos rfl]
end Ab
end Go.Proofs.YtpmigkbcldffeaaGreatDoor

/- moderate.entries, Status, Of. -/
namespace Go.Proofs.YtpmigkbcldffeaaGreatDoor
namespace Ab
open Go.RowKit Go.Shelf Go.Lib
set_option maxRecDepth 10000
/-- A world: only its moderators count here. -/
structure Wd where
  a0 : AV
  a1 : AV
  ms : List Int
  a3 : AV
  a4 : AV
  a5 : AV
def Wd.c (w : Wd) : List AV := [w.a0, w.a1, ints w.ms, w.a3, w.a4, w.a5]
theorem EI.zero {A : AO} {m : Nat} (h : ¬ A.mut m) : EI A (A.setMap m []) [] [] m none :=
  ⟨le_setMap (AO.le.refl _) h, rfl, fun j hj => absurd hj (Nat.not_lt_zero j), setMap_at, List.nodup_nil, fun p hp => absurd hp List.not_mem_nil, h, fun b hb => by cases hb⟩
theorem ptrs_len (ps : List Nat) : (ptrs ps).length = ps.length := by simp [ptrs]
theorem ptrs_snoc (ps : List Nat) (p : Nat) : ptrs ps ++ [[.gp p 0]] = ptrs (ps ++ [p]) := by simp [ptrs]
theorem find_en (es : List En) (s : Str) : (∀ e ∈ es, e.id ≠ s) ∨ ∃ j, ∃ h : j < es.length, es[j].id = s := by
  by_cases h : ∃ e ∈ es, e.id = s
  · obtain ⟨e, he, hs⟩ := h
    obtain ⟨j, hj, rfl⟩ := List.mem_iff_getElem.1 he
    exact .inr ⟨j, hj, hs⟩
  · exact .inl fun e he hs => h ⟨e, he, hs⟩
theorem map_none {es : List En} {s : Str} {f : En → En} (h : ∀ e ∈ es, e.id ≠ s) : es.map (fun e => if e.id = s then f e else e) = es := by
  have : es.map (fun e => if e.id = s then f e else e) = es.map id := List.map_congr_left fun e he => if_neg (h e he)
  rw [this, List.map_id]
set_option maxHeartbeats 2000000 in
theorem entries_ok (l : List Rc) (hl : LW l) (h0 : l.length ≤ 10000) (w : Wd) (hw : BL w.ms.length) (A : AO) :
    ASpec Tryz.prog 23 [rcs l, .agg w.c] A (fun v B => ∃ ps m ob, v = .tup [.os 1 ob ps.length (ptrs ps), .map m] ∧ EI A B (entriesP w.ms l) ps m ob) := by
  refine ASpec.by Tryz.func23 rfl Tryz.ntmps23 [37] rfl ?_
  (conv => whnf)
  refine NM.mk fun m hm => ?_
  (conv => whnf)
  refine LK.mk (ι := {x : AO × List Nat × Option Nat × Nat // x.2.2.2 ≤ l.length ∧ EI A x.1 (entriesP w.ms (l.take x.2.2.2)) x.2.1 m x.2.2.1}) (fun x => [(3, .lp 0 0), (6, .v (.os 1 x.1.2.2.1 x.1.2.1.length (ptrs x.1.2.1))), (7, .v (.map m)), (14, .v (rcs l)), (15, .v (.int .i64 l.length)), (16, .v (.int .i64 x.1.2.2.2))]) (fun _ => [w.c]) (fun x => x.1.1) (fun x => l.length - x.1.2.2.2) ⟨(A.setMap m [], [], none, 0), Nat.zero_le _, EI.zero hm⟩ ?_ ?_
  · exact ⟨⟨⟨rfl, rfl, Nat.le_of_ble_eq_true rfl⟩, Sub.os_sz, Sub.refl _, Sub.refl _, Sub.refl _, Sub.refl _, trivial⟩, ⟨Subs.refl _, trivial⟩, AO.le.refl _⟩
  rintro ⟨⟨B, ps, ob, k⟩, hk, hE⟩
  dsimp only at hk hE
  have hn := entries_nodup w.ms (l.take k)
  have hlen := entries_len w.ms (l.take k)
  have hpl := hE.len
  rw [List.length_take] at hlen
  obtain ⟨es, hes⟩ : ∃ es, es = entriesP w.ms (l.take k) := ⟨_, rfl⟩
  rw [← hes] at hE hn hlen hpl
  (conv => whnf)
  refine BK.dec (fun h => ?_) (fun h => ?_) <;> (conv => whnf)
  · have hk' : k < l.length := by have : (k : Int) < l.length := h; omega
    have hr := hl.one _ (List.getElem_mem hk')
    have hst := entries_step w.ms hk'
    rw [← hes] at hst
    have done : ∀ {tm : TM} {own : OW} {B' : AO} {ps' : List Nat} {ob' : Option Nat}, look tm 3 = some (.lp 0 0) → look tm 6 = some (.v (.os 1 ob' ps'.length (ptrs ps'))) → look tm 7 = some (.v (.map m)) → look tm 14 = some (.v (rcs l)) → look tm 15 = some (.v (.int .i64 l.length)) → look tm 16 = some (.v (.int .i64 ((k : Int) + 1))) → leO own [w.c] → EI A B' (stepE w.ms es l[k]) ps' m ob' →
        ∃ j : {x : AO × List Nat × Option Nat × Nat // x.2.2.2 ≤ l.length ∧ EI A x.1 (entriesP w.ms (l.take x.2.2.2)) x.2.1 m x.2.2.1}, Le tm own B' [(3, .lp 0 0), (6, .v (.os 1 j.1.2.2.1 j.1.2.1.length (ptrs j.1.2.1))), (7, .v (.map m)), (14, .v (rcs l)), (15, .v (.int .i64 l.length)), (16, .v (.int .i64 j.1.2.2.2))] [w.c] j.1.1 ∧ l.length - j.1.2.2.2 < l.length - k := by
      intro tm own B' ps' ob' h3 h6 h7 h14 h15 h16 ho hE'
      refine ⟨⟨(B', ps', ob', k + 1), hk', by rw [hst]; exact hE'⟩, ⟨⟨?_, ?_, ?_, ?_, ?_, ?_, trivial⟩, ho, AO.le.refl _⟩, by simp; omega⟩
      · rw [h3]; exact ⟨rfl, rfl, Nat.le_of_ble_eq_true rfl⟩
      · rw [h6]; exact Sub.refl _
      · rw [h7]; exact Sub.refl _
      · rw [h14]; exact Sub.refl _
      · rw [h15]; exact Sub.refl _
      · rw [h16]; exact Sub.refl _
    refine RK.mk k _ rfl (map_get hk') ?_
    (conv => whnf)
    refine BK.eq (fun k1 => ?_) (fun k1 => ?_) <;> (conv => whnf)
    · have k1 : l[k].Kind = 1 := k1
      refine CK.pure ent18 (id_ok l[k] hr) (Subs.refl _) ?_
      (conv => whnf)
      rcases find_en es (idP l[k]) with hno | ⟨j, hj, hid⟩
      · refine MK.mk (mapE es ps) none hE.map (mfind_no _ _ _ _ hno) ?_
        (conv => whnf)
        refine HK.mk fun p hp => ?_
        (conv => whnf)
        refine AK.one (x := [.gp p 0]) (by kernel_rfl) rfl (ptrs_len ps) (.inr rfl) (fun b hb => ?_) ?_ ?_
        · exact (hE.of_ b hb).2
        · show (ps.length + 1) * 9 ≤ _
          omega
        intro ob' B1 ha
        (conv => whnf)
        have hm1 : B1.maps m = some (mapE es ps) := by
          have : B1.maps = B.maps := by
            rcases ha with ⟨_, rfl⟩ | ⟨_, _, _, rfl⟩ <;> (cases ob <;> cases ob' <;> rfl)
          rw [this]; exact hE.map
        refine MK.mk (mapE es ps) none hm1 (mfind_no _ _ _ _ hno) ?_
        (conv => whnf)
        repeat' ((first | (refine BK.dec (fun h => ?_) (fun h => ?_)) | (refine BK.ne (fun h => ?_) (fun h => ?_)) | (refine BK.eq (fun h => ?_) (fun h => ?_)) | (refine BK.mk (fun h => ?_) (fun h => ?_)) | (refine IK.in64 (by first | omega | (dsimp only; omega)) (by first | omega | (dsimp only; omega)) ?_) | (refine NK.mk (by kernel_rfl) ?_)) <;> (conv => whnf))
        have hA := hE.add hp ⟨l[k].Edits, idP l[k], 1, [], l[k].Edits⟩ ha
        refine done (ps' := ps ++ [p]) (ob' := ob') rfl ?_ rfl rfl rfl rfl ⟨Subs.refl _, trivial⟩ ?_
        · show some (TV.v (.os 1 ob' (ps.length + 1) (ptrs ps ++ [[.gp p 0]]))) = _
          rw [ptrs_snoc, show (ps ++ [p]).length = ps.length + 1 by simp]
        · unfold stepE
          rw [if_pos k1, if_neg (fun ⟨e, he, hs⟩ => hno e he hs)]
          exact hA
      · have hjp : j < ps.length := by rw [hpl]; exact hj
        refine MK.mk (mapE es ps) _ hE.map (mfind_yes _ es ps 0 j hj hjp hid hn) ?_
        (conv => whnf)
        repeat' ((first | (refine BK.dec (fun h => ?_) (fun h => ?_)) | (refine BK.ne (fun h => ?_) (fun h => ?_)) | (refine BK.eq (fun h => ?_) (fun h => ?_)) | (refine BK.mk (fun h => ?_) (fun h => ?_)) | (refine IK.in64 (by first | omega | (dsimp only; omega)) (by first | omega | (dsimp only; omega)) ?_) | (refine NK.mk (by kernel_rfl) ?_)) <;> (conv => whnf))
        refine done (ps' := ps) (ob' := ob) rfl rfl rfl rfl rfl rfl ⟨Subs.refl _, trivial⟩ ?_
        unfold stepE
        rw [if_pos k1, if_pos ⟨es[j], List.getElem_mem hj, hid⟩]
        exact hE
    · have k1 : ¬ l[k].Kind = 1 := k1
      refine BK.eq (fun k3 => ?_) (fun k3 => ?_) <;> (conv => whnf)
      · have k3 : l[k].Kind = 3 := k3
        rcases find_en es l[k].Target with hno | ⟨j, hj, hid⟩
        · refine MK.mk (mapE es ps) none hE.map (mfind_no _ _ _ _ hno) ?_
          (conv => whnf)
          repeat' ((first | (refine BK.dec (fun h => ?_) (fun h => ?_)) | (refine BK.ne (fun h => ?_) (fun h => ?_)) | (refine BK.eq (fun h => ?_) (fun h => ?_)) | (refine BK.mk (fun h => ?_) (fun h => ?_)) | (refine IK.in64 (by first | omega | (dsimp only; omega)) (by first | omega | (dsimp only; omega)) ?_) | (refine NK.mk (by kernel_rfl) ?_)) <;> (conv => whnf))
          refine done (ps' := ps) (ob' := ob) rfl rfl rfl rfl rfl rfl ⟨Subs.refl _, trivial⟩ ?_
          unfold stepE
          rw [if_neg k1]
          split
          · rw [map_none hno]
            exact hE
          · exact hE
        · have hjp : j < ps.length := by rw [hpl]; exact hj
          refine MK.mk (mapE es ps) _ hE.map (mfind_yes _ es ps 0 j hj hjp hid hn) ?_
          (conv => whnf)
          refine CK.dec ent33 (contains_ints w.ms l[k].Author hw) (Subs.refl _) (fun hc => ?_) (fun hc => ?_) <;> (conv => whnf)
          · refine CK.mk ent34 (obey_ok es[j] l[k] hr ps[j] B (hE.rows j hj hjp)) (Subs.refl _) ?_
            rintro _ B' ⟨rfl, hB'⟩
            (conv => whnf)
            repeat' ((first | (refine BK.dec (fun h => ?_) (fun h => ?_)) | (refine BK.ne (fun h => ?_) (fun h => ?_)) | (refine BK.eq (fun h => ?_) (fun h => ?_)) | (refine BK.mk (fun h => ?_) (fun h => ?_)) | (refine IK.in64 (by first | omega | (dsimp only; omega)) (by first | omega | (dsimp only; omega)) ?_) | (refine NK.mk (by kernel_rfl) ?_)) <;> (conv => whnf))
            subst hB'
            refine done (ps' := ps) (ob' := ob) rfl rfl rfl rfl rfl rfl ⟨Subs.refl _, trivial⟩ ?_
            unfold stepE
            rw [if_neg k1, if_pos ⟨k3, hc⟩, map_set hn hj hid]
            exact hE.obey hj hjp (obeyE es[j] l[k]) (obey_id _ _)
          · repeat' ((first | (refine BK.dec (fun h => ?_) (fun h => ?_)) | (refine BK.ne (fun h => ?_) (fun h => ?_)) | (refine BK.eq (fun h => ?_) (fun h => ?_)) | (refine BK.mk (fun h => ?_) (fun h => ?_)) | (refine IK.in64 (by first | omega | (dsimp only; omega)) (by first | omega | (dsimp only; omega)) ?_) | (refine NK.mk (by kernel_rfl) ?_)) <;> (conv => whnf))
            refine done (ps' := ps) (ob' := ob) rfl rfl rfl rfl rfl rfl ⟨Subs.refl _, trivial⟩ ?_
            unfold stepE
            rw [if_neg k1, if_neg (fun h => hc h.2)]
            exact hE
      · have k3 : ¬ l[k].Kind = 3 := k3
        repeat' ((first | (refine BK.dec (fun h => ?_) (fun h => ?_)) | (refine BK.ne (fun h => ?_) (fun h => ?_)) | (refine BK.eq (fun h => ?_) (fun h => ?_)) | (refine BK.mk (fun h => ?_) (fun h => ?_)) | (refine IK.in64 (by first | omega | (dsimp only; omega)) (by first | omega | (dsimp only; omega)) ?_) | (refine NK.mk (by kernel_rfl) ?_)) <;> (conv => whnf))
        refine done (ps' := ps) (ob' := ob) rfl rfl rfl rfl rfl rfl ⟨Subs.refl _, trivial⟩ ?_
        unfold stepE
        rw [if_neg k1, if_neg (fun h => k3 h.1)]
        exact hE
  · have hk' : k = l.length := by have : ¬ (k : Int) < l.length := h; omega
    subst hk'
    rw [List.take_length] at hes
    subst hes
    exact FK.mk (Sub.refl _) (AO.le.refl _) ⟨ps, m, ob, rfl, hE⟩
def En.s (e : En) : List AV := [.str e.id, .int .i64 e.state, .str e.by_, eds e.edits]
def sts (es : List En) : AV := .sl 4 es.length (es.map En.s)
set_option maxHeartbeats 1000000 in
theorem status_ok (l : List Rc) (hl : LW l) (h0 : l.length ≤ 10000) (w : Wd) (hw : BL w.ms.length) : PSpec Tryz.prog 13 [rcs l, .agg w.c] (sts (entriesP w.ms l)) := by
  refine PSpec.by Tryz.func13 rfl Tryz.ntmps13 [] rfl fun A => ?_
  (conv => whnf)
  refine CK.mk ent23 (entries_ok l hl h0 w hw A) (Subs.refl _) ?_
  rintro _ B ⟨ps, m, ob, rfl, hE⟩
  have hel := entries_len w.ms l
  have hpl := hE.len
  generalize entriesP w.ms l = es at *
  (conv => whnf)
  refine LK.mk (ι := {x : Option Nat × Nat // x.2 ≤ es.length ∧ ∀ b, x.1 = some b → ¬ B.mut b}) (fun x => [(7, .v (.os 4 x.1.1 x.1.2 ((es.take x.1.2).map En.s))), (16, .v (.os 1 ob ps.length (ptrs ps))), (17, .v (.int .i64 (ptrs ps).length)), (18, .v (.int .i64 x.1.2))]) (fun _ => []) (fun x => B.tok x.1.1 4 x.1.2) (fun x => es.length - x.1.2) ⟨(none, 0), Nat.zero_le _, fun b hb => by cases hb⟩ ?_ ?_
  · exact ⟨⟨Sub.os_sz, Sub.refl _, Sub.refl _, Sub.refl _, trivial⟩, trivial, AO.le.refl _⟩
  rintro ⟨⟨o2, k⟩, hk, ho⟩
  dsimp only at hk ho
  (conv => whnf)
  refine BK.dec (fun h => ?_) (fun h => ?_) <;> (conv => whnf)
  · have hk' : k < es.length := by have h : (k : Int) < (ptrs ps).length := h; rw [ptrs_len] at h; omega
    have hkp : k < ps.length := by omega
    refine RK.mk k _ rfl (map_get (l := ps) hkp) ?_
    (conv => whnf)
    refine GK.mk es[k].c (by show (B.tok o2 4 k).rows _ = _; rw [tok_rows]; exact hE.rows k hk' hkp) ?_
    (conv => whnf)
    refine AK.one (x := es[k].s) (by kernel_rfl) rfl (by rw [List.length_map, List.length_take]; exact Nat.min_eq_left hk) (.inr rfl) tok_at ?_ ?_
    · show (k + 1) * _ ≤ 70368744177664
      exact Nat.le_trans (Nat.mul_le_mul_right _ (show k + 1 ≤ 10001 by omega)) (Nat.le_of_ble_eq_true rfl)
    intro o3 A' h'
    (conv => whnf)
    repeat' ((first | (refine BK.dec (fun h => ?_) (fun h => ?_)) | (refine BK.ne (fun h => ?_) (fun h => ?_)) | (refine BK.eq (fun h => ?_) (fun h => ?_)) | (refine BK.mk (fun h => ?_) (fun h => ?_)) | (refine IK.in64 (by first | omega | (dsimp only; omega)) (by first | omega | (dsimp only; omega)) ?_) | (refine NK.mk (by kernel_rfl) ?_)) <;> (conv => whnf))
    refine ⟨⟨(o3, k + 1), hk', tok_fresh ho (After.or h')⟩, ⟨⟨Sub.eq ?_, Sub.refl _, Sub.refl _, Sub.refl _, trivial⟩, trivial, After.le ho h'⟩, by simp; omega⟩
    show AV.os 4 o3 (k + 1) ((es.take k).map En.s ++ [es[k].s]) = _
    rw [List.take_succ_eq_append_getElem hk', List.map_append]; rfl
  · have hk' : k = es.length := by have h : ¬ (k : Int) < (ptrs ps).length := h; rw [ptrs_len] at h; omega
    subst hk'
    refine FK.weak ?_ (AO.le.trans (tok_le ho) hE.le)
    show Sub (.os 4 o2 es.length ((es.take es.length).map En.s)) _
    rw [List.take_length]
    exact Sub.os_sl (by simp)
/-- The entry with an Id. -/
def ofE (es : List En) (s : Str) : Option En := es.find? fun e => decide (e.id = s)
def ofV : Option En → AV
  | some e => .agg e.s
  | none => .agg [.str [], .int .i64 0, .str [], eds []]
theorem ofE_no {es : List En} {s : Str} (h : ∀ e ∈ es, e.id ≠ s) : ofE es s = none := by
  unfold ofE; rw [List.find?_eq_none]; intro e he; simpa using h e he
theorem ofE_yes {es : List En} {s : Str} (hn : (idsE es).Nodup) {j : Nat} (hj : j < es.length) (h : es[j].id = s) : ofE es s = some es[j] := by
  cases hf : ofE es s with
  | none =>
    unfold ofE at hf
    rw [List.find?_eq_none] at hf
    exact absurd h (by simpa using hf _ (List.getElem_mem hj))
  | some e =>
    unfold ofE at hf
    have h1 := List.mem_of_find?_eq_some hf
    have h2 := List.find?_some hf
    obtain ⟨i, hi, rfl⟩ := List.mem_iff_getElem.1 h1
    have h2 : es[i].id = s := by simpa using h2
    have : i = j := nodup_inj hn (by simpa [idsE] using hi) (by simpa [idsE] using hj) (by simp [idsE, h, h2])
    subst this; rfl
set_option maxHeartbeats 1000000 in
theorem of_ok (l : List Rc) (hl : LW l) (h0 : l.length ≤ 10000) (w : Wd) (hw : BL w.ms.length) (s : Str) : PSpec Tryz.prog 10 [rcs l, .agg w.c, .str s] (.tup [ofV (ofE (entriesP w.ms l) s), .bool (ofE (entriesP w.ms l) s).isSome]) := by
  refine PSpec.by Tryz.func10 rfl Tryz.ntmps10 [] rfl fun A => ?_
  (conv => whnf)
  refine CK.mk ent23 (entries_ok l hl h0 w hw A) (Subs.refl _) ?_
  rintro _ B ⟨ps, m, ob, rfl, hE⟩
  have hn := entries_nodup w.ms l
  have hpl := hE.len
  generalize entriesP w.ms l = es at *
  (conv => whnf)
  rcases find_en es s with hno | ⟨j, hj, hid⟩
  · refine MK.mk (mapE es ps) none hE.map (mfind_no _ _ _ _ hno) ?_
    (conv => whnf)
    refine FK.weak ?_ hE.le
    rw [ofE_no hno]
    exact Sub.tup (Subs.cons (Sub.agg (Subs.cons (Sub.refl _) (Subs.cons (Sub.refl _) (Subs.cons (Sub.refl _) (Subs.cons Sub.os_sl0 .nil))))) (Subs.refl _))
  · have hjp : j < ps.length := by rw [hpl]; exact hj
    refine MK.mk (mapE es ps) _ hE.map (mfind_yes _ es ps 0 j hj hjp hid hn) ?_
    (conv => whnf)
    refine GK.mk es[j].c (hE.rows j hj hjp) ?_
    (conv => whnf)
    refine FK.weak ?_ hE.le
    rw [ofE_yes hn hj hid]
    exact Sub.refl _
end Ab
end Go.Proofs.YtpmigkbcldffeaaGreatDoor

/- The law's helpers and examples. -/
namespace Go.Proofs.YtpmigkbcldffeaaGreatDoor
namespace Ab
open Go.RowKit Go.Shelf Go.Lib
set_option maxRecDepth 10000
structure EW (e : En) : Prop where
  own : BL e.own.length
  ow : ∀ x ∈ e.own, x.wf
  ed : BL e.edits.length
  ew : ∀ x ∈ e.edits, x.wf
theorem step_ew {ms : List Int} {es : List En} {r : Rc} (h : ∀ e ∈ es, EW e) (hr : r.wf) : ∀ e ∈ stepE ms es r, EW e := by
  unfold stepE
  split
  · split
    · exact h
    · intro e he
      rcases List.mem_append.1 he with he | he
      · exact h e he
      · rw [List.mem_singleton.1 he]; exact ⟨hr.edits, hr.edit, hr.edits, hr.edit⟩
  · split
    · intro e he
      obtain ⟨x, hx, rfl⟩ := List.mem_map.1 he
      have k := h x hx
      split
      · unfold obeyE
        split
        · exact k
        · refine ⟨k.own, k.ow, ?_, ?_⟩
          · show BL (if r.Order = 3 then r.Edits else x.own).length
            split
            · exact hr.edits
            · exact k.own
          · show ∀ y ∈ (if r.Order = 3 then r.Edits else x.own), y.wf
            split
            · exact hr.edit
            · exact k.ow
      · exact k
    · exact h
theorem entries_ew (ms : List Int) {l : List Rc} (hl : ∀ r ∈ l, r.wf) : ∀ e ∈ entriesP ms l, EW e := by
  have key : ∀ (l : List Rc) (es : List En), (∀ r ∈ l, r.wf) → (∀ e ∈ es, EW e) → ∀ e ∈ l.foldl (stepE ms) es, EW e := fun l => by
    induction l with
    | nil => exact fun es _ h => h
    | cons r l ih => exact fun es hl h => ih _ (fun x hx => hl x (List.mem_cons_of_mem _ hx)) (step_ew h (hl r (by simp)))
  exact key l [] hl (fun e he => by cases he)
/-- What can be seen of an entry. -/
def En.st (e : En) : Str × Int × Str × List Ed := (e.id, e.state, e.by_, e.edits)
theorem refEdits (a b : List Ed) (ha : BL a.length) (hw : ∀ e ∈ a, e.wf) : PSpec Tryz.prog 19 [eds a, eds b] (.bool (decide (a = b))) := by
  refine PSpec.by Tryz.func19 rfl Tryz.ntmps19 [] rfl fun A => ?_
  (conv => whnf)
  refine CK.pure ent30 (refEds a b ha hw) (Subs.refl _) ?_
  (conv => whnf)
  exact FK.eq rfl
theorem refSt (a b : En) (ha : EW a) : PSpec Tryz.prog 15 [.agg a.s, .agg b.s] (.bool (decide (a.st = b.st))) := by
  refine PSpec.by Tryz.func15 rfl Tryz.ntmps15 [] rfl fun A => ?_
  (conv => whnf)
  refine BK.eq (fun h1 => ?_) (fun h1 => ?_) <;> (conv => whnf)
  · refine BK.eq (fun h2 => ?_) (fun h2 => ?_) <;> (conv => whnf)
    · refine BK.eq (fun h3 => ?_) (fun h3 => ?_) <;> (conv => whnf)
      · refine CK.pure ent19 (refEdits a.edits b.edits ha.ed ha.ew) (Subs.refl _) ?_
        (conv => whnf)
        refine FK.eq (b_eq ?_)
        have h1 : a.id = b.id := h1
        have h2 : a.state = b.state := h2
        have h3 : a.by_ = b.by_ := h3
        simp [En.st, h1, h2, h3]
      · exact FK.eq (b_eq (by rw [decide_eq_false]; intro h; have : a.by_ = b.by_ := congrArg (fun x => x.2.2.1) h; exact h3 this))
    · exact FK.eq (b_eq (by rw [decide_eq_false]; intro h; have : a.state = b.state := congrArg (fun x => x.2.1) h; exact h2 this))
  · exact FK.eq (b_eq (by rw [decide_eq_false]; intro h; have : a.id = b.id := congrArg (fun x => x.1) h; exact h1 this))
theorem refSts (a b : List En) (h0 : BL a.length) (ha : ∀ e ∈ a, EW e) : PSpec Tryz.prog 12 [sts a, sts b] (.bool (decide (a.map En.st = b.map En.st))) := by
  refine PSpec.by Tryz.func12 rfl Tryz.ntmps12 [] rfl fun A => ?_
  (conv => whnf)
  refine BK.ne (fun h => ?_) (fun h => ?_) <;> (conv => whnf)
  · refine FK.eq (b_eq (decide_eq_false ?_).symm)
    intro e
    have := congrArg List.length e
    rw [List.length_map, List.length_map] at this
    exact h (by show (a.length : Int) = b.length; omega)
  have hab : a.length = b.length := by have : (a.length : Int) = b.length := h; omega
  refine LK.mk (ι := {k : Nat // k ≤ a.length ∧ (a.take k).map En.st = (b.take k).map En.st}) (fun k => [(0, .v (sts a)), (1, .v (sts b)), (5, .v (.int .i64 k.1))]) (fun _ => []) (fun _ => A) (fun k => a.length - k.1) ⟨0, Nat.zero_le _, rfl⟩ ?_ ?_
  · exact ⟨⟨Sub.refl _, Sub.refl _, Sub.refl _, trivial⟩, trivial, AO.le.refl _⟩
  rintro ⟨k, hk, hx⟩
  (conv => whnf)
  refine BK.dec (fun h => ?_) (fun h => ?_) <;> (conv => whnf)
  · have hk' : k < a.length := by have : (k : Int) < a.length := h; omega
    have hkb : k < b.length := by omega
    refine RK.mk k _ rfl (map_get hk') ?_
    (conv => whnf)
    refine RK.mk k _ rfl (map_get hkb) ?_
    (conv => whnf)
    refine PK.dec ent15 (refSt a[k] b[k] (ha _ (List.getElem_mem hk'))) (Subs.refl _) (fun h => ?_) (fun h => ?_) <;> (conv => whnf)
    · repeat' ((first | (refine BK.dec (fun h => ?_) (fun h => ?_)) | (refine BK.ne (fun h => ?_) (fun h => ?_)) | (refine BK.eq (fun h => ?_) (fun h => ?_)) | (refine BK.mk (fun h => ?_) (fun h => ?_)) | (refine IK.in64 (by first | omega | (dsimp only; omega)) (by first | omega | (dsimp only; omega)) ?_) | (refine NK.mk (by kernel_rfl) ?_)) <;> (conv => whnf))
      exact ⟨⟨k + 1, hk', by rw [List.take_succ_eq_append_getElem hk', List.take_succ_eq_append_getElem hkb, List.map_append, List.map_append, hx]; simp [h]⟩, ⟨⟨Sub.refl _, Sub.refl _, Sub.refl _, trivial⟩, trivial, AO.le.refl _⟩, by simp; omega⟩
    · repeat' ((first | (refine BK.dec (fun h => ?_) (fun h => ?_)) | (refine BK.ne (fun h => ?_) (fun h => ?_)) | (refine BK.eq (fun h => ?_) (fun h => ?_)) | (refine BK.mk (fun h => ?_) (fun h => ?_)) | (refine IK.in64 (by first | omega | (dsimp only; omega)) (by first | omega | (dsimp only; omega)) ?_) | (refine NK.mk (by kernel_rfl) ?_)) <;> (conv => whnf))
      refine FK.eq (b_eq (decide_eq_false ?_).symm)
      intro e
      apply h
      have := congrArg (fun l => l[k]?) e
      simpa [hk', hkb] using this
  · have hk' : k = a.length := by have : ¬ (k : Int) < a.length := h; have : k ≤ a.length := hk; omega
    subst hk'
    refine FK.eq (b_eq (decide_eq_true ?_).symm)
    have hx : (a.take a.length).map En.st = (b.take a.length).map En.st := hx
    rwa [List.take_length, hab, List.take_length] at hx
theorem refIsM (w : Wd) (n : Int) (hw : BL w.ms.length) : PSpec Tryz.prog 16 [.agg w.c, .int .i64 n] (.bool (decide (n ∈ w.ms))) := by
  refine PSpec.by Tryz.func16 rfl Tryz.ntmps16 [] rfl fun A => ?_
  (conv => whnf)
  refine LK.mk (ι := {k : Nat // k ≤ w.ms.length ∧ n ∉ w.ms.take k}) (fun k => [(1, .v (.int .i64 n)), (2, .lp 0 0), (5, .v (.int .i64 k.1))]) (fun _ => [w.c]) (fun _ => A) (fun k => w.ms.length - k.1) ⟨0, Nat.zero_le _, by simp⟩ ?_ ?_
  · exact ⟨⟨Sub.refl _, ⟨rfl, rfl, Nat.le_of_ble_eq_true rfl⟩, Sub.refl _, trivial⟩, ⟨Subs.refl _, trivial⟩, AO.le.refl _⟩
  rintro ⟨k, hk, hx⟩
  (conv => whnf)
  refine BK.dec (fun h => ?_) (fun h => ?_) <;> (conv => whnf)
  · have hk' : k < w.ms.length := by have : (k : Int) < w.ms.length := h; omega
    refine RK.mk k _ rfl (map_get hk') ?_
    (conv => whnf)
    refine BK.eq (fun h => ?_) (fun h => ?_) <;> (conv => whnf)
    · exact FK.eq (b_eq (decide_eq_true (by rw [← h]; exact List.getElem_mem hk')).symm)
    · repeat' ((first | (refine BK.dec (fun h => ?_) (fun h => ?_)) | (refine BK.ne (fun h => ?_) (fun h => ?_)) | (refine BK.eq (fun h => ?_) (fun h => ?_)) | (refine BK.mk (fun h => ?_) (fun h => ?_)) | (refine IK.in64 (by first | omega | (dsimp only; omega)) (by first | omega | (dsimp only; omega)) ?_) | (refine NK.mk (by kernel_rfl) ?_)) <;> (conv => whnf))
      exact ⟨⟨k + 1, hk', by rw [List.take_succ_eq_append_getElem hk']; intro hm; rcases List.mem_append.1 hm with hm | hm; exact hx hm; exact h (List.mem_singleton.1 hm).symm⟩, ⟨⟨Sub.refl _, ⟨rfl, rfl, Nat.le_of_ble_eq_true rfl⟩, Sub.refl _, trivial⟩, ⟨Subs.refl _, trivial⟩, AO.le.refl _⟩, by simp; omega⟩
  · have hk' : k = w.ms.length := by have : ¬ (k : Int) < w.ms.length := h; have : k ≤ w.ms.length := hk; omega
    subst hk'
    have hx : n ∉ w.ms.take w.ms.length := hx
    rw [List.take_length] at hx
    exact FK.eq (b_eq (decide_eq_false hx).symm)
def fewM (l : List Rc) (w : Wd) : Bool := rcsFew 20 l && decide ((w.ms.length : Int) ≤ 60)
theorem lawFewM (l : List Rc) (hl : LW0 l) (w : Wd) : PSpec Tryz.prog 9 [rcs l, .agg w.c] (.bool (fewM l w)) := by
  refine PSpec.by Tryz.func9 rfl Tryz.ntmps9 [] rfl fun A => ?_
  (conv => whnf)
  refine CK.bool ent22 (refFew l 20 hl) (Subs.refl _) (fun h => ?_) (fun h => ?_) <;> (conv => whnf)
  · refine BK.mk (fun h2 => ?_) (fun h2 => ?_) <;> (conv => whnf)
    · exact FK.eq (b_eq (by unfold fewM; rw [h]; exact h2.symm))
    · exact FK.eq (b_eq (by unfold fewM; rw [h]; exact h2.symm))
  · exact FK.eq (b_eq (by unfold fewM; rw [h]; rfl))
/-! ### The examples -/
theorem idP_len (r : Rc) : (idP r).length ≤ 16 := by
  unfold idP
  split
  · simp
  · rw [sumP_len]; exact Nat.le_refl _
def mainS : Str := [109, 97, 105, 110]
def dropE (s : Str) : Ed := { Ed.zero with Op := 5, Id := s }
def changeR (s : Str) : Rc := ⟨1, 1, 1, 1, mainS, [], [dropE s], [], false, 0, [], .zero, .zero⟩
def orderR (m n what : Int) (t : Rc) (l : List Ed) : Rc := ⟨3, m, n, 1 + n, mainS, [], l, idP t, false, what, [], .zero, .zero⟩
theorem drop_sub {x : AV} (s : Str) (h : x = .os 15 none 1 [[.int .i64 5, .str s, .str [], .str [], .int .i64 0, .int .i64 0, .str [], .str [], .os 0 none 0 [], .str [], .int .i64 0, .int .i64 0, .int .i64 0, .os 0 none 0 [], .os 0 none 0 []]]) : Sub x (eds [dropE s]) := by
  subst h
  refine Sub.trans (Sub.os_sl rfl) (Sub.slr rfl (fun i a b => ?_))
  match i, a with
  | 0, _ =>
    show Subs [_, _, _, _, _, _, _, _, _, _, _, _, _, _, _] (dropE s).c
    repeat' (first | exact Subs.nil | refine Subs.cons (Sub.refl _) ?_ | refine Subs.cons Sub.os_sl0 ?_)
theorem change_ok (s : Str) : PSpec Tryz.prog 20 [.str s] (.agg (changeR s).c) := by
  refine PSpec.by Tryz.func20 rfl Tryz.ntmps20 [] rfl fun A => ?_
  (conv => whnf)
  refine FK.sub (Sub.agg ?_)
  repeat' (first | exact Subs.nil | refine Subs.cons (Sub.refl _) ?_ | refine Subs.cons Sub.os_sl0 ?_ | refine Subs.cons (drop_sub s rfl) ?_)
theorem order_okM (m n what : Int) (t : Rc) (l : List Ed) (ht : t.wf) (hn : 0 ≤ n ∧ n ≤ 1000) : PSpec Tryz.prog 21 [.int .i64 m, .int .i64 n, .int .i64 what, .agg t.c, eds l] (.agg (orderR m n what t l).c) := by
  refine PSpec.by Tryz.func21 rfl Tryz.ntmps21 [] rfl fun A => ?_
  (conv => whnf)
  refine IK.in64 (by omega) (by omega) ?_
  (conv => whnf)
  refine CK.pure ent18 (id_ok t ht) (Subs.refl _) ?_
  (conv => whnf)
  refine FK.sub (Sub.agg ?_)
  repeat' (first | exact Subs.nil | refine Subs.cons (Sub.refl _) ?_ | refine Subs.cons Sub.os_sl0 ?_)
end Ab
end Go.Proofs.YtpmigkbcldffeaaGreatDoor

/- The law's examples. -/
namespace Go.Proofs.YtpmigkbcldffeaaGreatDoor
namespace Ab
open Go.RowKit Go.Shelf Go.Lib
set_option maxRecDepth 10000
theorem sw0 : SW [] := ⟨Nat.zero_le _, fun s hs => absurd hs List.not_mem_nil⟩
theorem drop_wf (s : Str) (h : s.length ≤ 100) : (dropE s).wf := ⟨by show s.length ≤ _; omega, Nat.zero_le _, Nat.zero_le _, Nat.zero_le _, Nat.zero_le _, sw0, Ob.zero_wf⟩
theorem change_wf (s : Str) (h : s.length ≤ 100) : (changeR s).wf := ⟨⟨Nat.le_of_ble_eq_true rfl, sw0, Nat.le_of_ble_eq_true rfl, fun e he => by rw [List.mem_singleton.1 he]; exact drop_wf s h, Nat.zero_le _, Nat.zero_le _, Pv.zero_wf.se, Pv.zero_wf⟩, Nat.zero_le _⟩
theorem order_wf (m n what : Int) (t : Rc) (l : List Ed) (hl : l.length ≤ 100) (hw : ∀ e ∈ l, e.wf) : (orderR m n what t l).wf := ⟨⟨Nat.le_of_ble_eq_true rfl, sw0, by show l.length ≤ _; omega, hw, by show (idP t).length ≤ _; have := idP_len t; omega, Nat.zero_le _, Pv.zero_wf.se, Pv.zero_wf⟩, Nat.zero_le _⟩
theorem lwM {l : List Rc} (h : l.length ≤ 100) (k : ∀ r ∈ l, r.wf) : LW l := ⟨by show l.length ≤ _; omega, k⟩
theorem step_change {ms : List Int} {r : Rc} (h : r.Kind = 1) : stepE ms [] r = [⟨r.Edits, idP r, 1, [], r.Edits⟩] := by unfold stepE; rw [if_pos h]; simp
theorem step_order {ms : List Int} {e : En} {r : Rc} (h : r.Kind = 3) (hm : r.Author ∈ ms) (ht : e.id = r.Target) : stepE ms [e] r = [obeyE e r] := by
  unfold stepE; rw [if_neg (by omega), if_pos ⟨h, hm⟩]; simp [ht]
theorem step_skip {ms : List Int} {es : List En} {r : Rc} (h : r.Kind = 3) (hm : r.Author ∉ ms) : stepE ms es r = es := by
  unfold stepE; rw [if_neg (by omega), if_neg (fun k => hm k.2)]
theorem step_none {ms : List Int} {r : Rc} (h : r.Kind = 3) : stepE ms [] r = [] := by
  unfold stepE; rw [if_neg (by omega)]; split <;> rfl
def n1 : Str := [110, 49]
def n2 : Str := [110, 50]
def cR : Rc := changeR n1
def hR : Rc := orderR 0 1 2 cR []
def aR : Rc := orderR 0 2 3 cR [dropE n2]
def vR : Rc := orderR 1 2 4 cR []
theorem cW : cR.wf := change_wf n1 (by decide)
theorem hW : hR.wf := order_wf 0 1 2 cR [] (by decide) (fun e he => by cases he)
theorem aW : aR.wf := order_wf 0 2 3 cR [dropE n2] (Nat.le_of_ble_eq_true rfl) (fun e he => by rw [List.mem_singleton.1 he]; exact drop_wf n2 (by decide))
theorem vW : vR.wf := order_wf 1 2 4 cR [] (by decide) (fun e he => by cases he)
def w0 : Wd := ⟨.os 0 none 0 [], .os 0 none 0 [], [0], .int .i64 0, .os 0 none 0 [], .os 0 none 0 []⟩
def sH : En := ⟨[dropE n1], idP cR, 2, idP hR, [dropE n1]⟩
def sC : En := ⟨[dropE n1], idP cR, 1, [], [dropE n1]⟩
def sA : En := ⟨[dropE n1], idP cR, 1, idP aR, [dropE n2]⟩
theorem e1 : entriesP [0] [cR, hR] = [sH] := by
  show stepE [0] (stepE [0] [] cR) hR = _
  rw [step_change rfl, step_order rfl (by show (0 : Int) ∈ [(0 : Int)]; simp) rfl]; rfl
theorem e2 : entriesP [0] [hR, cR] = [sC] := by
  show stepE [0] (stepE [0] [] hR) cR = _
  rw [step_none rfl, step_change rfl]; rfl
theorem e3 : entriesP [0] [cR, vR] = [sC] := by
  show stepE [0] (stepE [0] [] cR) vR = _
  rw [step_change rfl, step_skip rfl (by show (1 : Int) ∉ [(0 : Int)]; simp)]; rfl
theorem e4 : entriesP [0] [cR, hR, aR] = [sA] := by
  show stepE [0] (stepE [0] (stepE [0] [] cR) hR) aR = _
  rw [step_change rfl, step_order rfl (by show (0 : Int) ∈ [(0 : Int)]; simp) rfl, step_order rfl (by show (0 : Int) ∈ [(0 : Int)]; simp) (obey_id _ _)]; rfl
theorem status_to {l : List Rc} {es : List En} {w : Wd} (hl : LW l) (h0 : l.length ≤ 10000) (hw : BL w.ms.length) (e : entriesP w.ms l = es) : PSpec Tryz.prog 13 [rcs l, .agg w.c] (sts es) := by
  have := status_ok l hl h0 w hw; rwa [e] at this
theorem of_to {l : List Rc} {es : List En} {w : Wd} {s : Str} {o : Option En} (hl : LW l) (h0 : l.length ≤ 10000) (hw : BL w.ms.length) (e : entriesP w.ms l = es) (k : ofE es s = o) : PSpec Tryz.prog 10 [rcs l, .agg w.c, .str s] (.tup [ofV o, .bool o.isSome]) := by
  have := of_ok l hl h0 w hw s; rwa [e, k] at this
theorem os_rcsM {l : List Rc} {n : Nat} {rows : List (List AV)} (e : l.map Rc.c = rows) (hn : l.length = n) : Sub (.os 21 none n rows) (rcs l) := by
  subst e; subst hn; exact Sub.os_sl (by simp)
theorem w0_sub : Sub (.agg [.os 0 none 0 [], .os 0 none 0 [], .os 1 none 1 [[.int .i64 0]], .int .i64 0, .os 0 none 0 [], .os 0 none 0 []]) (.agg w0.c) :=
  Sub.agg (Subs.cons (Sub.refl _) (Subs.cons (Sub.refl _) (Subs.cons (Sub.os_sl rfl) (Subs.refl _))))
theorem nil_eds : Sub (.os 0 none 0 []) (eds []) := Sub.os_sl0
theorem mem2 {P : Rc → Prop} {a b : Rc} (h : P a) (k : P b) : ∀ r ∈ [a, b], P r := fun r hr => by
  simp only [List.mem_cons, List.mem_nil_iff, or_false] at hr
  rcases hr with rfl | rfl
  · exact h
  · exact k
theorem mem3 {P : Rc → Prop} {a b c : Rc} (h : P a) (k : P b) (m : P c) : ∀ r ∈ [a, b, c], P r := fun r hr => by
  simp only [List.mem_cons, List.mem_nil_iff, or_false] at hr
  rcases hr with rfl | rfl | rfl
  · exact h
  · exact k
  · exact m
set_option maxHeartbeats 2000000 in
theorem head_ok : PSpec Tryz.prog 8 [] (.bool true) := by
  refine PSpec.by Tryz.func8 rfl Tryz.ntmps8 [] rfl fun A => ?_
  (conv => whnf)
  refine CK.pure ent20 (change_ok n1) (Subs.refl _) ?_
  (conv => whnf)
  refine CK.pure ent21 (order_okM 0 1 2 cR [] cW (by omega)) (Subs.cons (Sub.refl _) (Subs.cons (Sub.refl _) (Subs.cons (Sub.refl _) (Subs.cons (Sub.refl _) (Subs.cons nil_eds .nil))))) ?_
  (conv => whnf)
  refine CK.pure ent21 (order_okM 0 2 3 cR [dropE n2] cW (by omega)) (Subs.cons (Sub.refl _) (Subs.cons (Sub.refl _) (Subs.cons (Sub.refl _) (Subs.cons (Sub.refl _) (Subs.cons (drop_sub n2 rfl) .nil))))) ?_
  (conv => whnf)
  refine CK.pure ent13 (status_to (w := w0) (lwM (by decide) (mem2 cW hW)) (by decide) (by decide) e1) (Subs.cons (os_rcsM rfl rfl) (Subs.cons w0_sub .nil)) ?_
  (conv => whnf)
  refine CK.pure ent13 (status_to (w := w0) (lwM (by decide) (mem2 hW cW)) (by decide) (by decide) e2) (Subs.cons (os_rcsM rfl rfl) (Subs.cons w0_sub .nil)) ?_
  (conv => whnf)
  refine PK.mk ent21 (order_okM 1 2 4 cR [] cW (by omega)) (Subs.cons (Sub.refl _) (Subs.cons (Sub.refl _) (Subs.cons (Sub.refl _) (Subs.cons (Sub.refl _) (Subs.cons nil_eds .nil))))) ?_
  (conv => whnf)
  refine PK.mk ent13 (status_to (w := w0) (lwM (by decide) (mem2 cW vW)) (by decide) (by decide) e3) (Subs.cons (os_rcsM rfl rfl) (Subs.cons w0_sub .nil)) ?_
  (conv => whnf)
  refine NK.mk (by kernel_rfl) ?_
  (conv => whnf)
  refine PK.mk ent18 (id_ok cR cW) (Subs.refl _) ?_
  (conv => whnf)
  refine PK.mk ent10 (of_to (w := w0) (s := idP cR) (o := some sA) (lwM (by decide) (mem3 cW hW aW)) (by decide) (by decide) e4 (by unfold ofE; simp [sA])) (Subs.cons (os_rcsM rfl rfl) (Subs.cons w0_sub (Subs.cons (Sub.refl _) .nil))) ?_
  (conv => whnf)
  refine NK.mk (by kernel_rfl) ?_
  (conv => whnf)
  refine BK.is (c := false) rfl ?_
  (conv => whnf)
  refine BK.is (c := false) rfl ?_
  (conv => whnf)
  refine BK.is (c := false) rfl ?_
  (conv => whnf)
  refine RK.mk 0 sH.s rfl rfl ?_
  (conv => whnf)
  refine BK.is (c := true) rfl ?_
  (conv => whnf)
  refine RK.mk 0 sH.s rfl rfl ?_
  (conv => whnf)
  refine PK.mk ent18 (id_ok hR hW) (Subs.refl _) ?_
  (conv => whnf)
  refine BK.is (c := true) (beq_self_eq_true _) ?_
  (conv => whnf)
  refine RK.mk 0 sC.s rfl rfl ?_
  (conv => whnf)
  refine BK.is (c := true) rfl ?_
  (conv => whnf)
  refine RK.mk 0 sC.s rfl rfl ?_
  (conv => whnf)
  refine BK.is (c := true) rfl ?_
  (conv => whnf)
  refine RK.mk 0 sC.s rfl rfl ?_
  (conv => whnf)
  refine BK.is (c := true) rfl ?_
  (conv => whnf)
  refine BK.is (c := true) rfl ?_
  (conv => whnf)
  refine PK.mk ent18 (id_ok aR aW) (Subs.refl _) ?_
  (conv => whnf)
  refine BK.is (c := true) (beq_self_eq_true _) ?_
  (conv => whnf)
  refine PK.mk ent19 (refEdits [dropE n2] [dropE n2] (by decide) (fun e he => by rw [List.mem_singleton.1 he]; exact drop_wf n2 (by decide))) (Subs.cons (Sub.refl _) (Subs.cons (drop_sub n2 rfl) .nil)) ?_
  rw [decide_eq_true rfl]
  (conv => whnf)
  refine NK.mk (by kernel_rfl) ?_
  (conv => whnf)
  exact FK.eq rfl
end Ab
end Go.Proofs.YtpmigkbcldffeaaGreatDoor
