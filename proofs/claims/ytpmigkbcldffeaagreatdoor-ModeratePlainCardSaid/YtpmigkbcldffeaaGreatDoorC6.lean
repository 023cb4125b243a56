/- Seals, order, points, tags. -/
import Derived.Test.YtpmigkbcldffeaaGreatDoorC5
set_option linter.unusedVariables false
set_option linter.unusedSimpArgs false
set_option linter.unusedSectionVars false
namespace Go.Proofs.YtpmigkbcldffeaaGreatDoor
namespace Ab
open Go.RowKit Go.Shelf Go.Lib
set_option maxRecDepth 10000
def zeroP (s : Se) : Bool := decide (s.Index = 0) && decide ((s.Sig.length : Int) + s.Path.length = 0)
theorem zero_ok (s : Se) (hs : s.wf) : PSpec Tryz.prog 75 [.agg s.c] (.bool (zeroP s)) := by
  have h1 := hs.sig.1
  have h2 := hs.path.1
  refine PSpec.by Tryz.func75 rfl Tryz.ntmps75 [] rfl fun A => ?_
  (conv => whnf)
  repeat' ((first | (refine BK.dec (fun h => ?_) (fun h => ?_)) | (refine BK.ne (fun h => ?_) (fun h => ?_)) | (refine BK.eq (fun h => ?_) (fun h => ?_)) | (refine BK.mk (fun h => ?_) (fun h => ?_)) | (refine IK.in64 (by first | omega | (dsimp only; omega)) (by first | omega | (dsimp only; omega)) ?_) | (refine NK.mk (by kernel_rfl) ?_)) <;> (conv => whnf))
  all_goals (refine FK.eq (b_eq ?_); unfold zeroP; simp [*])
def formedP (s : Se) : Bool := zeroP s || (decide (s.Index ≥ 0) && (decide (s.Index < 256) && (decide ((s.Sig.length : Int) = 18) && (decide ((s.Path.length : Int) ≤ 8) && (s.Sig.all isP && s.Path.all isP)))))
theorem formed_ok (s : Se) (hs : s.wf) : PSpec Tryz.prog 44 [.agg s.c] (.bool (formedP s)) := by
  have h1 := hs.sig.1
  have h2 := hs.path.1
  refine PSpec.by Tryz.func44 rfl Tryz.ntmps44 [] rfl fun A => ?_
  (conv => whnf)
  refine CK.bool ent75 (zero_ok s hs) (Subs.refl _) (fun hz => ?_) (fun hz => ?_) <;> (conv => whnf)
  · exact FK.eq (b_eq (by unfold formedP; rw [hz]; rfl))
  repeat' ((first | (refine BK.dec (fun h => ?_) (fun h => ?_)) | (refine BK.ne (fun h => ?_) (fun h => ?_)) | (refine BK.eq (fun h => ?_) (fun h => ?_)) | (refine BK.mk (fun h => ?_) (fun h => ?_)) | (refine IK.in64 (by first | omega | (dsimp only; omega)) (by first | omega | (dsimp only; omega)) ?_) | (refine NK.mk (by kernel_rfl) ?_) | (refine CK.bool ent49 (digests_ok s.Sig hs.sig) (Subs.refl _) (fun h => ?_) (fun h => ?_)) | (refine CK.bool ent49 (digests_ok s.Path hs.path) (Subs.refl _) (fun h => ?_) (fun h => ?_))) <;> (conv => whnf))
  all_goals (refine FK.eq (b_eq ?_); unfold formedP; rw [hz]; simp only [*, decide_true, decide_false, Bool.true_and, Bool.false_and, Bool.false_or])
theorem within_ok (a lo hi : Int) : PSpec Tryz.prog 38 [.int .i64 a, .int .i64 lo, .int .i64 hi] (.bool (decide (a ≥ lo) && decide (a ≤ hi))) := by
  refine PSpec.by Tryz.func38 rfl Tryz.ntmps38 [] rfl fun A => ?_
  (conv => whnf)
  repeat' ((first | (refine BK.dec (fun h => ?_) (fun h => ?_)) | (refine BK.ne (fun h => ?_) (fun h => ?_)) | (refine BK.eq (fun h => ?_) (fun h => ?_)) | (refine BK.mk (fun h => ?_) (fun h => ?_)) | (refine IK.in64 (by first | omega | (dsimp only; omega)) (by first | omega | (dsimp only; omega)) ?_) | (refine NK.mk (by kernel_rfl) ?_)) <;> (conv => whnf))
  all_goals (refine FK.eq (b_eq ?_); simp [*])
/-- Off the grid. -/
def offP (p : Pt) : Bool := !(decide (p.X ≥ 0) && decide (p.X ≤ 1048575)) || !(decide (p.Y ≥ 0) && decide (p.Y ≤ 1048575))
theorem off_ok (p : Pt) (b : Nat) (A : AO) (hb : A.rows b = some [.fn (.func 38) [] []]) : ASpec Tryz.prog 43 [.agg p.c, .gp b 0] A (fun v B => v = .bool (offP p) ∧ B = A) := by
  refine ASpec.by Tryz.func43 rfl Tryz.ntmps43 [] rfl ?_
  (conv => whnf)
  refine GK.mk _ hb ?_
  (conv => whnf)
  refine CK.bool ent38 (within_ok p.X 0 1048575) (Subs.refl _) (fun h1 => ?_) (fun h1 => ?_) <;> (conv => whnf)
  · refine GK.mk _ hb ?_
    (conv => whnf)
    refine CK.bool ent38 (within_ok p.Y 0 1048575) (Subs.refl _) (fun h2 => ?_) (fun h2 => ?_) <;> (conv => whnf)
    · exact FK.eq (b_eq (by unfold offP; rw [h1, h2]; rfl))
    · exact FK.eq (b_eq (by unfold offP; rw [h1, h2]; rfl))
  · exact FK.eq (b_eq (by unfold offP; rw [h1]; rfl))
theorem nan_ok (a : Str) : PSpec Tryz.prog 94 [.str a] (.bool false) := by
  refine PSpec.by Tryz.func94 rfl Tryz.ntmps94 [] rfl fun A => ?_
  (conv => whnf)
  repeat' ((first | (refine BK.dec (fun h => ?_) (fun h => ?_)) | (refine BK.ne (fun h => ?_) (fun h => ?_)) | (refine BK.eq (fun h => ?_) (fun h => ?_)) | (refine BK.mk (fun h => ?_) (fun h => ?_)) | (refine IK.in64 (by first | omega | (dsimp only; omega)) (by first | omega | (dsimp only; omega)) ?_) | (refine NK.mk (by kernel_rfl) ?_)) <;> (conv => whnf))
  all_goals first | exact FK.eq rfl | (exfalso; simp_all)
theorem less_ok (a b : Str) : PSpec Tryz.prog 76 [.str a, .str b] (.bool (Op.bytesLess a b)) := by
  refine PSpec.by Tryz.func76 rfl Tryz.ntmps76 [] rfl fun A => ?_
  (conv => whnf)
  refine CK.pure ent94 (nan_ok a) (Subs.refl _) ?_
  (conv => whnf)
  repeat' ((first | (refine BK.dec (fun h => ?_) (fun h => ?_)) | (refine BK.ne (fun h => ?_) (fun h => ?_)) | (refine BK.eq (fun h => ?_) (fun h => ?_)) | (refine BK.mk (fun h => ?_) (fun h => ?_)) | (refine IK.in64 (by first | omega | (dsimp only; omega)) (by first | omega | (dsimp only; omega)) ?_) | (refine NK.mk (by kernel_rfl) ?_)) <;> (conv => whnf))
  all_goals (refine FK.eq (b_eq ?_); simp [*])
/-- In order. -/
def upAt (l : List Str) (j : Nat) : Bool := decide (j = 0) || !Op.bytesLess (l.getD j []) (l.getD (j - 1) [])
def sortedP (l : List Str) : Bool := (List.range l.length).all (upAt l)
theorem sorted_ok (l : List Str) (hl : BL l.length) : PSpec Tryz.prog 45 [strs l] (.bool (sortedP l)) := by
  refine PSpec.by Tryz.func45 rfl Tryz.ntmps45 [] rfl fun A => ?_
  (conv => whnf)
  (first | (refine BK.dec (fun h => ?_) (fun h => ?_)) | (refine BK.ne (fun h => ?_) (fun h => ?_)) | (refine BK.eq (fun h => ?_) (fun h => ?_)) | (refine BK.mk (fun h => ?_) (fun h => ?_)) | (refine IK.in64 (by first | omega | (dsimp only; omega)) (by first | omega | (dsimp only; omega)) ?_) | (refine NK.mk (by kernel_rfl) ?_)) <;> (conv => whnf)
  refine LK.mk (ι := {i : Int // -1 ≤ i ∧ i < l.length ∧ ∀ j : Nat, i < j → j < l.length → upAt l j = true}) (fun i => [(0, .v (strs l)), (3, .v (.int .i64 i.1))]) (fun _ => []) (fun _ => A) (fun i => i.1.toNat) ⟨l.length - 1, by omega, by omega, fun j h1 h2 => by omega⟩ ?_ ?_
  · exact ⟨⟨Sub.refl _, Sub.refl _, trivial⟩, trivial, AO.le.refl _⟩
  rintro ⟨i, h1, h2, h3⟩
  (conv => whnf)
  refine BK.dec (fun h => ?_) (fun h => ?_) <;> (conv => whnf)
  · have h : i > 0 := h
    obtain ⟨k, rfl⟩ : ∃ k : Nat, i = k := ⟨i.toNat, by omega⟩
    have hk : k < l.length := by omega
    refine RK.mk k _ rfl (map_get hk) ?_
    (conv => whnf)
    refine IK.in64 (by dsimp only; omega) (by dsimp only; omega) ?_
    (conv => whnf)
    refine RK.mk (k - 1) _ (by dsimp only; omega) (map_get (by omega : k - 1 < l.length)) ?_
    (conv => whnf)
    refine PK.bool ent76 (less_ok l[k] l[k - 1]) (Subs.refl _) (fun hh => ?_) (fun hh => ?_) <;> (conv => whnf)
    · repeat' ((first | (refine BK.dec (fun h => ?_) (fun h => ?_)) | (refine BK.ne (fun h => ?_) (fun h => ?_)) | (refine BK.eq (fun h => ?_) (fun h => ?_)) | (refine BK.mk (fun h => ?_) (fun h => ?_)) | (refine IK.in64 (by first | omega | (dsimp only; omega)) (by first | omega | (dsimp only; omega)) ?_) | (refine NK.mk (by kernel_rfl) ?_)) <;> (conv => whnf))
      refine FK.eq (b_eq ?_)
      unfold sortedP
      rw [range_no hk]
      unfold upAt; simp [hk, (by omega : k - 1 < l.length), hh]; omega
    · repeat' ((first | (refine BK.dec (fun h => ?_) (fun h => ?_)) | (refine BK.ne (fun h => ?_) (fun h => ?_)) | (refine BK.eq (fun h => ?_) (fun h => ?_)) | (refine BK.mk (fun h => ?_) (fun h => ?_)) | (refine IK.in64 (by first | omega | (dsimp only; omega)) (by first | omega | (dsimp only; omega)) ?_) | (refine NK.mk (by kernel_rfl) ?_)) <;> (conv => whnf))
      have hj : -1 ≤ (k : Int) - 1 ∧ (k : Int) - 1 < l.length ∧ ∀ j : Nat, (k : Int) - 1 < j → j < l.length → upAt l j = true := by
        refine ⟨by omega, by omega, fun j a b => ?_⟩
        by_cases e : j = k
        · subst e; unfold upAt; simp [hk, (by omega : j - 1 < l.length), hh]
        · exact h3 j (by omega) b
      exact ⟨⟨(k : Int) - 1, hj⟩, ⟨⟨Sub.refl _, Sub.refl _, trivial⟩, trivial, AO.le.refl _⟩, by simp; omega⟩
  · have h : ¬ i > 0 := h
    refine FK.eq (b_eq ?_)
    unfold sortedP
    rw [Eq.comm, List.all_eq_true]
    intro j hj
    have hj := List.mem_range.1 hj
    by_cases e : j = 0
    · subst e; rfl
    · exact h3 j (by omega) hj
/-! ### Tags -/
def tagAt (l : List Tg) (k : Nat) : Bool :=
  let last := if k = 0 then [] else (l.getD (k - 1) ⟨[], []⟩).Key
  let t := l.getD k ⟨[], []⟩
  !(!nameP t.Key || ((Op.bytesLess t.Key last || t.Key == last) || (decide (t.Val = []) || decide ((t.Val.length : Int) > 200))))
def tagsP (l : List Tg) : Bool := (List.range l.length).all (tagAt l) && decide ((l.length : Int) ≤ 60)
theorem tags_ok (l : List Tg) (hl : BL l.length) (hw : ∀ t ∈ l, BL t.Key.length ∧ BL t.Val.length) : PSpec Tryz.prog 155 [tgs l] (.bool (tagsP l)) := by
  refine PSpec.by Tryz.func155 rfl Tryz.ntmps155 [] rfl fun A => ?_
  (conv => whnf)
  refine LK.mk (ι := {k : Nat // k ≤ l.length ∧ (List.range k).all (tagAt l) = true}) (fun k => [(0, .v (tgs l)), (3, .v (.str (if k.1 = 0 then [] else (l.getD (k.1 - 1) ⟨[], []⟩).Key))), (6, .v (tgs l)), (7, .v (.int .i64 l.length)), (8, .v (.int .i64 k.1))]) (fun _ => []) (fun _ => A) (fun k => l.length - k.1) ⟨0, by simp⟩ ?_ ?_
  · exact ⟨⟨Sub.refl _, Sub.refl _, Sub.refl _, Sub.refl _, Sub.refl _, trivial⟩, trivial, AO.le.refl _⟩
  rintro ⟨k, hk, he⟩
  (conv => whnf)
  refine BK.dec (fun h => ?_) (fun h => ?_) <;> (conv => whnf)
  · have hk' : k < l.length := by have : (k : Int) < l.length := h; omega
    have hw' := hw _ (List.getElem_mem hk')
    have hg : l.getD k ⟨[], []⟩ = l[k] := by simp [hk']
    have no : tagAt l k = false → ∀ {A' : AO}, A' = A → FK (fun v' B => v' = .bool (tagsP l) ∧ B = A) (.bool false) A' := fun h0 A' hA => by
      subst hA
      exact FK.eq (b_eq (by unfold tagsP; rw [range_no hk' h0]; rfl))
    refine RK.mk k _ rfl (map_get hk') ?_
    (conv => whnf)
    refine CK.bool ent48 (name_ok (l[k]).Key hw'.1) (Subs.refl _) (fun hn => ?_) (fun hn => ?_) <;> (conv => whnf)
    · refine BK.mk (fun h2 => ?_) (fun h2 => ?_) <;> (conv => whnf)
      · exact no (by unfold tagAt; simp only [hg, hn, h2]; rfl) rfl
      · repeat' ((first | (refine BK.dec (fun h => ?_) (fun h => ?_)) | (refine BK.ne (fun h => ?_) (fun h => ?_)) | (refine BK.eq (fun h => ?_) (fun h => ?_)) | (refine BK.mk (fun h => ?_) (fun h => ?_)) | (refine IK.in64 (by first | omega | (dsimp only; omega)) (by first | omega | (dsimp only; omega)) ?_) | (refine NK.mk (by kernel_rfl) ?_)) <;> (conv => whnf))
        all_goals first
          | exact no (by unfold tagAt; simp only [hg, hn, h2]; simp [*]) rfl
          | exact ⟨⟨k + 1, hk', range_step he (by unfold tagAt; simp only [hg, hn, h2]; simp [*])⟩, ⟨⟨Sub.refl _, Sub.eq (by simp [hk']), Sub.refl _, Sub.refl _, Sub.refl _, trivial⟩, trivial, AO.le.refl _⟩, by simp; omega⟩
    · exact no (by unfold tagAt; simp only [hg, hn]; rfl) rfl
  · have hk' : k = l.length := by have : ¬ (k : Int) < l.length := h; omega
    subst hk'
    repeat' ((first | (refine BK.dec (fun h => ?_) (fun h => ?_)) | (refine BK.ne (fun h => ?_) (fun h => ?_)) | (refine BK.eq (fun h => ?_) (fun h => ?_)) | (refine BK.mk (fun h => ?_) (fun h => ?_)) | (refine IK.in64 (by first | omega | (dsimp only; omega)) (by first | omega | (dsimp only; omega)) ?_) | (refine NK.mk (by kernel_rfl) ?_)) <;> (conv => whnf))
    all_goals (refine FK.eq (b_eq ?_); unfold tagsP; rw [he]; simp [*])
end Ab
end Go.Proofs.YtpmigkbcldffeaaGreatDoor

/- object.Valid. -/
namespace Go.Proofs.YtpmigkbcldffeaaGreatDoor
namespace Ab
open Go.RowKit Go.Shelf Go.Lib
set_option maxRecDepth 10000
def wordP (k : Int) : Str :=
  if k = 1 then [110, 111, 100, 101] else if k = 2 then [119, 97, 121] else if k = 3 then [97, 114, 101, 97] else if k = 4 then [114, 111, 117, 116, 101] else if k = 5 then [116, 117, 114, 110] else []
theorem word_ok (k : Int) : PSpec Tryz.prog 140 [.int .i64 k] (.str (wordP k)) := by
  by_cases hk : k < 0 ∨ k ≥ 6
  · refine PSpec.by Tryz.func140 rfl Tryz.ntmps140 [] rfl fun A => ?_
    (conv => whnf)
    have e : wordP k = [] := by unfold wordP; rw [if_neg (by omega), if_neg (by omega), if_neg (by omega), if_neg (by omega), if_neg (by omega)]
    refine BK.dec (fun h => ?_) (fun h => ?_) <;> (conv => whnf)
    · exact FK.eq (by rw [e]; rfl)
    · refine BK.dec (fun h2 => ?_) (fun h2 => by omega)
      (conv => whnf)
      exact FK.eq (by rw [e]; rfl)
  · have : k = 0 ∨ k = 1 ∨ k = 2 ∨ k = 3 ∨ k = 4 ∨ k = 5 := by omega
    rcases this with rfl | rfl | rfl | rfl | rfl | rfl
    all_goals
      refine PSpec.by Tryz.func140 rfl Tryz.ntmps140 [] rfl fun A => ?_
      (conv => whnf)
      refine BK.dec (fun h => absurd h (by decide)) (fun _ => ?_)
      (conv => whnf)
      refine BK.dec (fun h => absurd h (by decide)) (fun _ => ?_)
      (conv => whnf)
      refine NK.mk (by decide) ?_
      (conv => whnf)
      exact FK.eq rfl
def leastP (k : Int) : Int := if k = 2 then 2 else if k = 3 then 3 else if k = 4 then 1 else if k = 5 then 3 else 0
theorem least_ok (k : Int) (h1 : 1 ≤ k) (h2 : k ≤ 5) : PSpec Tryz.prog 156 [.int .i64 k] (.int .i64 (leastP k)) := by
  have : k = 1 ∨ k = 2 ∨ k = 3 ∨ k = 4 ∨ k = 5 := by omega
  rcases this with rfl | rfl | rfl | rfl | rfl
  all_goals
    refine PSpec.by Tryz.func156 rfl Tryz.ntmps156 [] rfl fun A => ?_
    (conv => whnf)
    refine NK.mk (by decide) ?_
    (conv => whnf)
    exact FK.eq rfl
def onP (p : Pt) : Bool := decide (p.X ≥ 0) && (decide (p.X < 1048576) && (decide (p.Y ≥ 0) && decide (p.Y < 1048576)))
theorem on_ok (p : Pt) : PSpec Tryz.prog 158 [.agg p.c] (.bool (onP p)) := by
  refine PSpec.by Tryz.func158 rfl Tryz.ntmps158 [] rfl fun A => ?_
  (conv => whnf)
  repeat' ((first | (refine BK.dec (fun h => ?_) (fun h => ?_)) | (refine BK.ne (fun h => ?_) (fun h => ?_)) | (refine BK.eq (fun h => ?_) (fun h => ?_)) | (refine BK.mk (fun h => ?_) (fun h => ?_)) | (refine IK.in64 (by first | omega | (dsimp only; omega)) (by first | omega | (dsimp only; omega)) ?_) | (refine NK.mk (by kernel_rfl) ?_)) <;> (conv => whnf))
  all_goals (refine FK.eq (b_eq ?_); unfold onP; simp [*])

/-! ### What the closure has seen -/
/-- The map behind k strings. -/
def seenM : List Str → List (AV × AV)
  | [] => []
  | s :: r => match mfind (.str s) (seenM r) 0 with
    | some q => mput (seenM r) (.str s) (.bool true) q
    | none => []
/-- A map of strings to true, that holds just those of l. -/
structure SeenIs (es : List (AV × AV)) (l : List Str) : Prop where
  keys : ∀ e ∈ es, ∃ s ∈ l, e = (.str s, .bool true)
  all : ∀ s ∈ l, ∃ e ∈ es, e = (.str s, .bool true)
theorem SeenIs.find {l : List Str} (s : Str) : ∀ (es : List (AV × AV)) (i : Nat), (∀ e ∈ es, ∃ x ∈ l, e = (.str x, .bool true)) →
    (∃ j, mfind (.str s) es i = some (some (i + j, .bool true)) ∧ j < es.length ∧ (AV.str s, AV.bool true) ∈ es) ∨ (mfind (.str s) es i = some none ∧ (AV.str s, AV.bool true) ∉ es)
  | [], i, _ => .inr ⟨rfl, by simp⟩
  | e :: r, i, h => by
    obtain ⟨x, _, rfl⟩ := h e (by simp)
    by_cases hx : s = x
    · subst hx
      exact .inl ⟨0, by simp [mfind, keyEq], by simp, by simp⟩
    · have hb : (s == x) = false := by simpa using hx
      rcases SeenIs.find s r (i + 1) (fun e he => h e (List.mem_cons_of_mem _ he)) with ⟨j, h1, h2, h3⟩ | ⟨h1, h2⟩
      · exact .inl ⟨j + 1, by simp only [mfind, keyEq, hb, h1]; congr 3; omega, by simp; omega, List.mem_cons_of_mem _ h3⟩
      · refine .inr ⟨by simp only [mfind, keyEq, hb, h1], ?_⟩
        simp only [List.mem_cons, not_or]
        exact ⟨fun e => hx (by injection e with e1 e2; injection e1), h2⟩
theorem SeenIs.look {es : List (AV × AV)} {l : List Str} (h : SeenIs es l) (s : Str) : ∃ r, mfind (.str s) es 0 = some r ∧ mval (.bool false) r = .bool (decide (s ∈ l)) ∧ SeenIs (mput es (.str s) (.bool true) r) (s :: l) := by
  rcases SeenIs.find s es 0 h.keys with ⟨j, h1, h2, h3⟩ | ⟨h1, h2⟩
  · have hm : s ∈ l := by
      obtain ⟨x, hx, e⟩ := h.keys _ h3
      injection e with e1 e2; injection e1 with e1; subst e1; exact hx
    refine ⟨_, h1, by simp [mval, hm], ⟨fun e he => ?_, fun x hx => ?_⟩⟩
    · simp only [mput] at he
      rcases List.mem_or_eq_of_mem_set he with he | rfl
      · obtain ⟨y, hy, e1⟩ := h.keys e he
        exact ⟨y, List.mem_cons_of_mem _ hy, e1⟩
      · exact ⟨s, by simp, rfl⟩
    · have hx' : x ∈ l := by
        rcases List.mem_cons.1 hx with rfl | hx
        · exact hm
        · exact hx
      obtain ⟨e, he, rfl⟩ := h.all x hx'
      simp only [mput, Nat.zero_add]
      by_cases e : x = s
      · subst e
        exact ⟨_, List.mem_iff_getElem.2 ⟨j, by simpa using h2, by simp⟩, rfl⟩
      · refine ⟨_, ?_, rfl⟩
        obtain ⟨q, hq, hq2⟩ := List.mem_iff_getElem.1 he
        have hjq : j ≠ q ∨ True := .inr trivial
        by_cases hj : j = q
        · subst hj
          exfalso
          -- the found entry is the string's own
          have : ∀ (es : List (AV × AV)) (i j : Nat) v, mfind (.str s) es i = some (some (i + j, v)) → ∃ h : j < es.length, es[j].1 = .str s := by
            intro es
            induction es with
            | nil => intro i j v h; simp [mfind] at h
            | cons e r ih =>
              intro i j v h
              obtain ⟨k, w⟩ := e
              unfold mfind at h
              split at h
              · rename_i hq
                injection h with h; injection h with h; injection h with h _
                have : j = 0 := by omega
                subst this
                refine ⟨by simp, ?_⟩
                cases k <;> simp [keyEq] at hq
                simp [hq]
              · cases j with
                | zero =>
                  exfalso
                  have big : ∀ (es : List (AV × AV)) (i : Nat) j v, mfind (.str s) es i = some (some (j, v)) → i ≤ j := by
                    intro es
                    induction es with
                    | nil => intro i j v h; simp [mfind] at h
                    | cons e r ih =>
                      intro i j v h
                      obtain ⟨k, w⟩ := e
                      unfold mfind at h
                      split at h
                      · injection h with h; injection h with h; injection h with h _; omega
                      · have := ih (i + 1) j v h; omega
                      · cases h
                  have := big _ _ _ _ h; omega
                | succ j =>
                  obtain ⟨h1, h2⟩ := ih (i + 1) j v (by rw [h]; congr 3; omega)
                  exact ⟨by simpa using h1, by simpa using h2⟩
              · cases h
          obtain ⟨hq3, hq4⟩ := this es 0 j _ h1
          rw [hq2] at hq4
          injection hq4 with hq4
          exact e hq4
        · rw [← hq2]
          have := List.getElem_set_ne hj (a := (AV.str s, AV.bool true)) (by simpa using hq)
          rw [← this]
          exact List.getElem_mem _
  · have hm : s ∉ l := fun hs => by
      obtain ⟨e, he, rfl⟩ := h.all s hs
      exact h2 he
    refine ⟨_, h1, by simp [mval, hm], ⟨fun e he => ?_, fun x hx => ?_⟩⟩
    · simp only [mput] at he
      rcases List.mem_append.1 he with he | he
      · obtain ⟨y, hy, e1⟩ := h.keys e he
        exact ⟨y, List.mem_cons_of_mem _ hy, e1⟩
      · exact ⟨s, by simp, List.mem_singleton.1 he⟩
    · simp only [mput]
      rcases List.mem_cons.1 hx with rfl | hx
      · exact ⟨_, by simp, rfl⟩
      · obtain ⟨e, he, rfl⟩ := h.all x hx
        exact ⟨_, List.mem_append_left _ he, rfl⟩
/-! ### object.Valid -/
def lastOf : List Str → Str
  | [] => []
  | s :: _ => s
/-- Is the reference s wrong, behind those of l (the last one first)? -/
def wrongP (kind : Int) (l : List Str) (s : Str) : Bool := ((decide (kind = 2) && decide (s = lastOf l)) || (decide (kind = 3) && decide (s ∈ l))) || !nameP s
theorem setRow_row {A : AO} {p q : Nat} {cs : List AV} (h : q ≠ p) : (A.setRow p cs).rows q = A.rows q := by show (if q = p then _ else _) = _; rw [if_neg h]
theorem seen_is : ∀ (l : List Str), SeenIs (seenM l) l
  | [] => ⟨fun e he => by simp [seenM] at he, fun s hs => by simp at hs⟩
  | s :: r => by
    obtain ⟨q, h1, _, h3⟩ := (seen_is r).look s
    unfold seenM
    rw [h1]; exact h3
theorem wrong_ok (o : Ob) (l : List Str) (s : Str) (hs : BL s.length) (x y z m : Nat) (A : AO) (hx : A.rows x = some o.c) (hy : A.rows y = some [.str (lastOf l)]) (hz : A.rows z = some [.map m]) (hm : A.maps m = some (seenM l)) :
    ASpec Tryz.prog 157 [.str s, .gp x 0, .gp y 0, .gp z 0] A (fun v B => v = .bool (wrongP o.Kind l s) ∧ B = (A.setMap m (seenM (s :: l))).setRow y [.str s]) := by
  obtain ⟨r, hr, hv, hS'⟩ := (seen_is l).look s
  have hq : seenM (s :: l) = mput (seenM l) (.str s) (.bool true) r := by show (match mfind (.str s) (seenM l) 0 with | some q => _ | none => _) = _; rw [hr]
  refine ASpec.by Tryz.func157 rfl Tryz.ntmps157 [] rfl ?_
  (conv => whnf)
  refine GK.mk _ hx ?_
  (conv => whnf)
  have fin : ∀ (b : Bool) {v : AV} {B : AO}, (b = ((decide (o.Kind = 2) && decide (s = lastOf l)) || (decide (o.Kind = 3) && decide (s ∈ l)))) → v = .bool (b || !nameP s) → B = (A.setMap m (mput (seenM l) (.str s) (.bool true) r)).setRow y [.str s] →
      FK (fun v B => v = .bool (wrongP o.Kind l s) ∧ B = (A.setMap m (seenM (s :: l))).setRow y [.str s]) v B := fun b v B h1 h2 h3 =>
    FK.mk (Sub.refl _) (AO.le.refl _) ⟨by rw [h2, h1]; rfl, by rw [hq]; exact h3⟩
  have hv2 : mres false ty4.zv r = .bool (decide (s ∈ l)) := hv
  by_cases hmem : s ∈ l
  all_goals
    simp only [hmem, decide_true, decide_false] at hv2
    repeat' ((first | (refine GK.mk _ hx ?_) | (refine GK.mk _ hy ?_) | (refine GK.mk _ hz ?_) | (refine MK.mk (seenM l) r hm hr ?_; (conv => whnf); (try rw [hv2])) | (refine BK.eq (fun h => ?_) (fun h => ?_)) | (refine CK.bool ent48 (name_ok s hs) (Subs.refl _) (fun hn => ?_) (fun hn => ?_))) <;> (conv => whnf))
    all_goals first
      | omega
      | (refine fin true ?_ rfl rfl; simp_all; done)
      | (refine fin false ?_ (by rw [hn]; rfl) rfl; simp_all; done)
theorem le_setRow {A B : AO} {p : Nat} {cs : List AV} (h : B.le A) (hp : ¬ A.mut p) : (B.setRow p cs).le A := by
  refine ⟨fun q ds hq => ?_, h.toks, h.maps, h.tys⟩
  obtain ⟨es, h1, h2⟩ := h.rows q ds hq
  have hne : q ≠ p := fun e => hp (.inl (by rw [← e, hq]; simp))
  exact ⟨es, by rw [setRow_row hne]; exact h1, h2⟩
theorem le_setMap {A B : AO} {p : Nat} {cs : List (AV × AV)} (h : B.le A) (hp : ¬ A.mut p) : (B.setMap p cs).le A := by
  refine ⟨h.rows, h.toks, fun q ds hq => ?_, h.tys⟩
  have hne : q ≠ p := fun e => hp (.inr (.inr (.inl (by rw [← e, hq]; simp))))
  show (if q = p then _ else B.maps q) = _
  rw [if_neg hne]; exact h.maps q ds hq
theorem le_setTy {A B : AO} {p : Nat} {e : TypeId} (h : B.le A) (hp : ¬ A.mut p) : (B.setTy p e).le A := by
  refine ⟨h.rows, h.toks, h.maps, fun q t hq => ?_⟩
  have hne : q ≠ p := fun e => hp (.inr (.inr (.inr (by rw [← e, hq]; simp))))
  show (if q = p then _ else B.tys q) = _
  rw [if_neg hne]; exact h.tys q t hq
theorem step_same {A : AO} {m y : Nat} {e e' : List (AV × AV)} {c c' : List AV} : (((A.setMap m e).setRow y c).setMap m e').setRow y c' = (A.setMap m e').setRow y c' := by
  have h1 : (((A.setMap m e).setRow y c).setMap m e').setRow y c' = ⟨fun q => if q = y then some c' else if q = y then some c else A.rows q, A.toks, fun q => if q = m then some e' else if q = m then some e else A.maps q, A.tys⟩ := rfl
  have h2 : (A.setMap m e').setRow y c' = ⟨fun q => if q = y then some c' else A.rows q, A.toks, fun q => if q = m then some e' else A.maps q, A.tys⟩ := rfl
  rw [h1, h2]
  congr 1
  · funext q; by_cases h : q = y <;> simp [h]
  · funext q; by_cases h : q = m <;> simp [h]
def wrongs (kind : Int) (l : List Str) : Bool := (List.range l.length).any fun k => wrongP kind (l.take k).reverse (l.getD k [])
theorem take_rev {l : List Str} {k : Nat} (h : k < l.length) : (l.take (k + 1)).reverse = l[k] :: (l.take k).reverse := by
  rw [List.take_succ_eq_append_getElem h, List.reverse_append]; rfl
def headO (o : Ob) : Bool := !(wordP o.Kind == []) && (nameP o.Id && (tagsP o.Tags && (!decide ((o.Refs.length : Int) < leastP o.Kind) && !decide ((o.Refs.length : Int) > 2000))))
def tailO (o : Ob) : Bool :=
  if o.Kind = 1 then decide ((o.Refs.length : Int) = 0) && onP o.At
  else if o.Kind = 5 then decide ((o.Refs.length : Int) = 3) && decide (o.At = ⟨0, 0⟩) else decide (o.At = ⟨0, 0⟩)
def validO (o : Ob) : Bool := headO o && (!wrongs o.Kind o.Refs && tailO o)
theorem word_kind {k : Int} (h : wordP k ≠ []) : 1 ≤ k ∧ k ≤ 5 := by
  unfold wordP at h
  by_cases h1 : k = 1
  · omega
  by_cases h2 : k = 2
  · omega
  by_cases h3 : k = 3
  · omega
  by_cases h4 : k = 4
  · omega
  by_cases h5 : k = 5
  · omega
  simp [h1, h2, h3, h4, h5] at h
theorem CK.mkA {P : Program} {f : FuncId} {args args' : List AV} {A A0 : AO} {Q : AV → AO → Prop} {K : AV → AO → Prop} (ha : A = A0) (e : Ent P f) (h : ASpec P f args' A0 Q) (hs : Subs args args') (k : ∀ v A', Q v A' → K v A') : CK P f args A K := by
  subst ha; exact CK.mk e h hs k
theorem AO.ext' {A B : AO} (h1 : ∀ q, A.rows q = B.rows q) (h2 : ∀ q, A.toks q = B.toks q) (h3 : ∀ q, A.maps q = B.maps q) (h4 : ∀ q, A.tys q = B.tys q) : A = B := by
  cases A; cases B; congr 1
  · exact funext h1
  · exact funext h2
  · exact funext h3
  · exact funext h4
theorem valid_ok (o : Ob) (ho : o.wf) : PSpec Tryz.prog 137 [.agg o.c] (.bool (validO o)) := by
  have l1 := ho.id
  have l2 := ho.refs.1
  have l3 := ho.tags
  refine PSpec.by Tryz.func137 rfl Tryz.ntmps137 [1, 3, 4] rfl fun A => ?_
  (conv => whnf)
  refine HK.mk fun x hx => ?_
  (conv => whnf)
  have hxr : ((A.setTy x 63).setRow x o.c).rows x = some o.c := setRow_at
  repeat' ((first | (refine GK.mk _ hxr ?_) | (refine BK.dec (fun h => ?_) (fun h => ?_)) | (refine BK.ne (fun h => ?_) (fun h => ?_)) | (refine BK.eq (fun h => ?_) (fun h => ?_)) | (refine BK.mk (fun h => ?_) (fun h => ?_)) | (refine IK.in64 (by first | omega | (dsimp only; omega)) (by first | omega | (dsimp only; omega)) ?_) | (refine NK.mk (by kernel_rfl) ?_) | (refine PK.mk ent140 (word_ok o.Kind) (Subs.refl _) ?_) | (refine PK.bool ent48 (name_ok o.Id l1) (Subs.refl _) (fun h => ?_) (fun h => ?_)) | (refine PK.bool ent155 (tags_ok o.Tags l3 ho.tag) (Subs.refl _) (fun h => ?_) (fun h => ?_)) | (refine PK.mk ent156 (least_ok o.Kind (word_kind (by assumption)).1 (word_kind (by assumption)).2) (Subs.refl _) ?_)) <;> (conv => whnf))
  · have h : wordP o.Kind = [] := h
    have e : validO o = false := by unfold validO headO; rw [h]; rfl
    exact FK.mk (Sub.refl _) (setRow_le hx) ⟨b_eq e.symm, rfl⟩
  · rename_i hw hn ht
    exact FK.mk (Sub.refl _) (setRow_le hx) ⟨b_eq (by unfold validO headO; rw [hn, ht]; simp [h]), rfl⟩
  · rename_i hw hn ht _
    exact FK.mk (Sub.refl _) (setRow_le hx) ⟨b_eq (by unfold validO headO; rw [hn, ht]; simp [h]), rfl⟩
  · rename_i hw hn ht hr
    have hw : wordP o.Kind ≠ [] := hw
    have hhead : headO o = true := by
      unfold headO
      have : (wordP o.Kind == []) = false := by simpa using hw
      rw [this, hn, ht]; simp; omega
    refine NM.mk fun m hm => ?_
    (conv => whnf)
    refine HK.mk fun z hz => ?_
    (conv => whnf)
    refine GK.mk _ setRow_at ?_
    (conv => whnf)
    refine HK.mk fun y hy => ?_
    (conv => whnf)
    refine GK.mk _ setRow_at ?_
    (conv => whnf)
    have hm1 : ¬ ((A.setTy x 63).setRow x o.c).mut m := hm
    have hz1 : ¬ (((A.setTy x 63).setRow x o.c).setMap m []).mut z := hz
    have hy1 : ¬ ((((((A.setTy x 63).setRow x o.c).setMap m []).setTy z 56).setRow z ty56.zv.cells).setRow z [.map m]).mut y := hy
    have hxz : ¬ x = z := fun e => hz1 (.inl (by rw [← e, show (((A.setTy x 63).setRow x o.c).setMap m []).rows x = some o.c from setRow_at]; simp))
    have hyz : ¬ y = z := fun e => hy1 (.inl (by rw [e, setRow_at]; simp))
    have hxy : ¬ x = y := fun e => hy1 (.inl (by rw [← e, setRow_row hxz, setRow_row hxz, show ((((A.setTy x 63).setRow x o.c).setMap m []).setTy z 56).rows x = some o.c from setRow_at]; simp))
    have lA : ((A.setTy x 63).setRow x o.c).le A := setRow_le hx
    have hmA : ¬ A.mut m := fun h => hm1 (lA.mut h)
    have lB : (((A.setTy x 63).setRow x o.c).setMap m []).le A := le_setMap lA hmA
    have hzA : ¬ A.mut z := fun h => hz1 (lB.mut h)
    have lC : ((((((A.setTy x 63).setRow x o.c).setMap m []).setTy z 56).setRow z ty56.zv.cells).setRow z [.map m]).le A := le_setRow (le_setRow (le_setTy lB hzA) hzA) hzA
    have hyA : ¬ A.mut y := fun h => hy1 (lC.mut h)
    refine GK.mk o.c (show (if x = y then _ else if x = y then _ else if x = z then _ else if x = z then _ else if x = x then some o.c else _) = some o.c by simp [hxy, hxz]) ?_
    (conv => whnf)
    let Ak : Nat → AO := fun k => (((((((A.setTy x 63).setRow x o.c).setMap m []).setTy z 56).setRow z [.map m]).setTy y 9).setMap m (seenM (o.Refs.take k).reverse)).setRow y [.str (lastOf (o.Refs.take k).reverse)]
    have hAx : ∀ k, (Ak k).rows x = some o.c := fun k => show (if x = y then _ else if x = z then _ else if x = x then some o.c else _) = some o.c by simp [hxy, hxz]
    have hAl : ∀ k, (Ak k).le A := fun k => le_setRow (le_setMap (le_setTy (le_setRow (le_setTy lB hzA) hzA) hyA) hmA) hyA
    refine CK.mkA (A0 := Ak 0) ?_ ent40 (containsS o.Refs l2 157 [.gp x 0, .gp y 0, .gp z 0] (fun k => wrongP o.Kind (o.Refs.take k).reverse (o.Refs.getD k [])) Ak ent157 (fun k hk => ?_)) (Subs.refl _) ?_
    · refine AO.ext' (fun q => ?_) (fun q => rfl) (fun q => ?_) (fun q => rfl)
      · show (if q = y then _ else if q = y then _ else if q = z then _ else if q = z then _ else if q = x then _ else _) = (if q = y then _ else if q = z then _ else if q = x then _ else _)
        by_cases e1 : q = y
        · simp [e1]; rfl
        · by_cases e2 : q = z
          · rw [if_neg e1, if_neg e1, if_pos e2, if_neg e1, if_pos e2]; rfl
          · rw [if_neg e1, if_neg e1, if_neg e2, if_neg e2, if_neg e1, if_neg e2]; rfl
      · show (if q = m then _ else _) = (if q = m then _ else if q = m then _ else _)
        by_cases e1 : q = m
        · simp [e1]; rfl
        · rw [if_neg e1, if_neg e1, if_neg e1]; rfl
    · refine (wrong_ok o (o.Refs.take k).reverse o.Refs[k] (ho.refs.2 _ (List.getElem_mem hk)) x y z m (Ak k) (hAx k) setRow_at (show (if z = y then _ else if z = z then some [AV.map m] else _) = _ by simp [Ne.symm hyz]) (show (if m = m then _ else _) = _ by simp)).mono ?_
      rintro v B ⟨rfl, rfl⟩
      refine ⟨by simp [hk], ?_⟩
      show (((( _ : AO).setMap m _).setRow y _).setMap m _).setRow y _ = _
      rw [step_same, ← take_rev hk]
      simp only [Ak]
      rw [take_rev hk]; rfl
    · rintro v B ⟨rfl, k, hk, rfl⟩
      have hwr : (List.range o.Refs.length).any (fun k => wrongP o.Kind (o.Refs.take k).reverse (o.Refs.getD k [])) = wrongs o.Kind o.Refs := rfl
      rw [hwr]
      cases hwv : wrongs o.Kind o.Refs <;> (conv => whnf)
      · have hval : validO o = tailO o := by unfold validO; rw [hhead, hwv]; rfl
        have pt0 : ∀ p : Pt, ((p.X == 0) && ((p.Y == 0) && true)) = decide (p = ⟨0, 0⟩) := fun p => by cases p; rw [Bool.eq_iff_iff]; simp
        have fin : ∀ (b : Bool), b = tailO o → FK (fun v' A' => v' = AV.bool (validO o) ∧ A' = A) (.bool b) (Ak k) := fun b hb => FK.mk (Sub.refl _) (hAl k) ⟨b_eq (by rw [hval]; exact hb), rfl⟩
        repeat' ((first | (refine GK.mk _ (hAx k) ?_) | (refine BK.dec (fun h => ?_) (fun h => ?_)) | (refine BK.ne (fun h => ?_) (fun h => ?_)) | (refine BK.eq (fun h => ?_) (fun h => ?_)) | (refine BK.mk (fun h => ?_) (fun h => ?_)) | (refine IK.in64 (by first | omega | (dsimp only; omega)) (by first | omega | (dsimp only; omega)) ?_) | (refine NK.mk (by kernel_rfl) ?_) | (refine CK.bool ent158 (on_ok o.At) (Subs.refl _) (fun h => ?_) (fun h => ?_))) <;> (conv => whnf))
        all_goals (refine fin _ ?_)
        all_goals (unfold tailO; (try rw [pt0] at h); simp only [*, if_true, if_false, decide_true, decide_false, Bool.true_and, Bool.false_and]; (try rfl))
      · exact FK.mk (Sub.refl _) (hAl k) ⟨b_eq (by unfold validO; rw [hhead, hwv]; rfl), rfl⟩
  · exact FK.mk (Sub.refl _) (setRow_le hx) ⟨b_eq (by unfold validO headO; rw [h]; simp), rfl⟩
  · exact FK.mk (Sub.refl _) (setRow_le hx) ⟨b_eq (by unfold validO headO; rw [h]; simp), rfl⟩
end Ab
end Go.Proofs.YtpmigkbcldffeaaGreatDoor

/- edit.Valid. -/
namespace Go.Proofs.YtpmigkbcldffeaaGreatDoor
namespace Ab
open Go.RowKit Go.Shelf Go.Lib
set_option maxRecDepth 10000
/-- On the grid. -/
def gridP (p : Pt) : Bool := decide (0 ≤ p.X ∧ 0 ≤ p.Y ∧ p.X < 1048576 ∧ p.Y < 1048576)
def Ob.zero : Ob := ⟨[], 0, ⟨0, 0⟩, [], []⟩
def Ed.zero : Ed := ⟨0, [], [], [], ⟨0, 0⟩, [], [], [], .zero⟩
/-- What of an edit its kind needs, and whether that is good. -/
def editX (e : Ed) : Option (Ed × Bool) :=
  let x : Ed := { Ed.zero with Op := e.Op, Id := e.Id }
  let ok := [e.Id].all nameP
  if e.Op = 1 then some ({ x with Id := [], Object := e.Object }, validO e.Object)
  else if e.Op = 2 then some ({ x with At := e.At }, ok && gridP e.At)
  else if e.Op = 3 then some ({ x with Key := e.Key, Val := e.Val }, ok && ([e.Key].all nameP && decide ((e.Val.length : Int) ≤ 200)))
  else if e.Op = 4 then some ({ x with Refs := e.Refs }, ok && (decide ((e.Refs.length : Int) > 0) && (decide ((e.Refs.length : Int) ≤ 2000) && e.Refs.all nameP)))
  else if e.Op = 5 then some (x, ok)
  else if e.Op = 6 then some ({ x with Node := e.Node, Other := e.Other }, ok && [e.Node, e.Other].all nameP)
  else if e.Op = 7 then some ({ x with Other := e.Other }, ok && [e.Other].all nameP)
  else none
def validE (e : Ed) : Bool :=
  match editX e with
  | some (x, ok) => ok && decide (x = e)
  | none => false
theorem os_one {a : Str} : Sub (.os 1 none 1 [[.str a]]) (strs [a]) := Sub.os_sl rfl
theorem os_two {a b : Str} : Sub (.os 1 none 2 [[.str a], [.str b]]) (strs [a, b]) := Sub.os_sl rfl
theorem sw1 {a : Str} (h : BL a.length) : SW [a] := ⟨by simp, fun s hs => by rw [List.mem_singleton.1 hs]; exact h⟩
theorem sw2 {a b : Str} (h : BL a.length) (k : BL b.length) : SW [a, b] := ⟨by simp, fun s hs => by
  rcases List.mem_cons.1 hs with rfl | hs
  · exact h
  · rw [List.mem_singleton.1 hs]; exact k⟩
theorem nil_tgs : Sub (.os 0 none 0 []) (tgs []) := Sub.os_sl0
theorem Ob.zero_wf : Ob.zero.wf := ⟨by decide, ⟨by decide, fun s hs => by cases hs⟩, by decide, fun t ht => by cases ht⟩
theorem validE1 (e : Ed) (he : e.wf) (hk : e.Op = 1) : PSpec Tryz.prog 118 [.agg e.c] (.bool (validE e)) := by
  have l1 := he.id
  have l2 := he.other
  have l3 := he.node
  have l4 := he.key
  have l5 := he.val
  have l6 := he.refs.1
  have hv : validE e = (validO e.Object && decide (({ Ed.zero with Op := e.Op, Object := e.Object } : Ed) = e)) := by unfold validE editX; rw [hk]; rfl
  have xw : (({ Ed.zero with Op := e.Op, Object := e.Object } : Ed)).wf := ⟨by first | exact l1 | exact Nat.zero_le _, by first | exact l2 | exact Nat.zero_le _, by first | exact l3 | exact Nat.zero_le _, by first | exact l4 | exact Nat.zero_le _, by first | exact l5 | exact Nat.zero_le _, by first | exact he.refs | exact ⟨Nat.zero_le _, fun s hs => by cases hs⟩, by first | exact he.obj | exact Ob.zero_wf⟩
  refine PSpec.by Tryz.func118 rfl Tryz.ntmps118 [] rfl fun A => ?_
  (conv => whnf)
  refine CK.bool ent136 (names_ok [e.Id] (sw1 l1)) (Subs.cons os_one .nil) (fun h0 => ?_) (fun h0 => ?_) <;> (conv => whnf)
  all_goals
    repeat' ((first | (refine BK.eq (fun h => absurd (hk.symm.trans h) (by decide)) (fun _ => ?_)) | (refine BK.eq (fun _ => ?_) (fun h => absurd hk h)) | (refine BK.dec (fun h => ?_) (fun h => ?_)) | (refine BK.ne (fun h => ?_) (fun h => ?_)) | (refine BK.eq (fun h => ?_) (fun h => ?_)) | (refine BK.mk (fun h => ?_) (fun h => ?_)) | (refine IK.in64 (by first | omega | (dsimp only; omega)) (by first | omega | (dsimp only; omega)) ?_) | (refine NK.mk (by kernel_rfl) ?_) | (refine PK.bool ent137 (valid_ok e.Object he.obj) (Subs.refl _) (fun h => ?_) (fun h => ?_)) | (refine CK.dec ent138 (edSame ({ Ed.zero with Op := e.Op, Object := e.Object } : Ed) e xw) (Subs.cons (Sub.agg (by repeat' (first | exact Subs.nil | refine Subs.cons (Sub.refl _) ?_ | refine Subs.cons nil_strs ?_ | refine Subs.cons nil_tgs ?_))) (Subs.cons (Sub.refl _) .nil)) (fun h => ?_) (fun h => ?_))) <;> (conv => whnf))
    all_goals first
      | (refine FK.eq (b_eq ?_); rw [hv, decide_eq_true h]; simp [*]; done)
      | (refine FK.eq (b_eq ?_); rw [hv, decide_eq_false h]; simp [*]; done)
      | (refine FK.eq (b_eq ?_); rw [hv]; simp [*]; done)
theorem validE2 (e : Ed) (he : e.wf) (hk : e.Op = 2) : PSpec Tryz.prog 118 [.agg e.c] (.bool (validE e)) := by
  have l1 := he.id
  have l2 := he.other
  have l3 := he.node
  have l4 := he.key
  have l5 := he.val
  have l6 := he.refs.1
  have hv : validE e = (([e.Id].all nameP && gridP e.At) && decide (({ Ed.zero with Op := e.Op, Id := e.Id, At := e.At } : Ed) = e)) := by unfold validE editX; rw [hk]; rfl
  have xw : (({ Ed.zero with Op := e.Op, Id := e.Id, At := e.At } : Ed)).wf := ⟨by first | exact l1 | exact Nat.zero_le _, by first | exact l2 | exact Nat.zero_le _, by first | exact l3 | exact Nat.zero_le _, by first | exact l4 | exact Nat.zero_le _, by first | exact l5 | exact Nat.zero_le _, by first | exact he.refs | exact ⟨Nat.zero_le _, fun s hs => by cases hs⟩, by first | exact he.obj | exact Ob.zero_wf⟩
  refine PSpec.by Tryz.func118 rfl Tryz.ntmps118 [] rfl fun A => ?_
  (conv => whnf)
  refine CK.bool ent136 (names_ok [e.Id] (sw1 l1)) (Subs.cons os_one .nil) (fun h0 => ?_) (fun h0 => ?_) <;> (conv => whnf)
  all_goals
    repeat' ((first | (refine BK.eq (fun h => absurd (hk.symm.trans h) (by decide)) (fun _ => ?_)) | (refine BK.eq (fun _ => ?_) (fun h => absurd hk h)) | (refine BK.dec (fun h => ?_) (fun h => ?_)) | (refine BK.ne (fun h => ?_) (fun h => ?_)) | (refine BK.eq (fun h => ?_) (fun h => ?_)) | (refine BK.mk (fun h => ?_) (fun h => ?_)) | (refine IK.in64 (by first | omega | (dsimp only; omega)) (by first | omega | (dsimp only; omega)) ?_) | (refine NK.mk (by kernel_rfl) ?_)  | (refine CK.dec ent138 (edSame ({ Ed.zero with Op := e.Op, Id := e.Id, At := e.At } : Ed) e xw) (Subs.cons (Sub.agg (by repeat' (first | exact Subs.nil | refine Subs.cons (Sub.refl _) ?_ | refine Subs.cons nil_strs ?_ | refine Subs.cons nil_tgs ?_))) (Subs.cons (Sub.refl _) .nil)) (fun h => ?_) (fun h => ?_))) <;> (conv => whnf))
    all_goals dsimp only at *
    all_goals first
      | (refine FK.eq (b_eq ?_); rw [hv, decide_eq_true h, h0, show gridP e.At = true from decide_eq_true (by omega)]; rfl)
      | (refine FK.eq (b_eq ?_); rw [hv, show gridP e.At = false from decide_eq_false (by omega)]; simp; done)
      | (refine FK.eq (b_eq ?_); rw [hv, decide_eq_false h]; simp; done)
      | (refine FK.eq (b_eq ?_); rw [hv, h0]; rfl)
theorem validE3 (e : Ed) (he : e.wf) (hk : e.Op = 3) : PSpec Tryz.prog 118 [.agg e.c] (.bool (validE e)) := by
  have l1 := he.id
  have l2 := he.other
  have l3 := he.node
  have l4 := he.key
  have l5 := he.val
  have l6 := he.refs.1
  have hv : validE e = (([e.Id].all nameP && ([e.Key].all nameP && decide ((e.Val.length : Int) ≤ 200))) && decide (({ Ed.zero with Op := e.Op, Id := e.Id, Key := e.Key, Val := e.Val } : Ed) = e)) := by unfold validE editX; rw [hk]; rfl
  have xw : (({ Ed.zero with Op := e.Op, Id := e.Id, Key := e.Key, Val := e.Val } : Ed)).wf := ⟨by first | exact l1 | exact Nat.zero_le _, by first | exact l2 | exact Nat.zero_le _, by first | exact l3 | exact Nat.zero_le _, by first | exact l4 | exact Nat.zero_le _, by first | exact l5 | exact Nat.zero_le _, by first | exact he.refs | exact ⟨Nat.zero_le _, fun s hs => by cases hs⟩, by first | exact he.obj | exact Ob.zero_wf⟩
  refine PSpec.by Tryz.func118 rfl Tryz.ntmps118 [] rfl fun A => ?_
  (conv => whnf)
  refine CK.bool ent136 (names_ok [e.Id] (sw1 l1)) (Subs.cons os_one .nil) (fun h0 => ?_) (fun h0 => ?_) <;> (conv => whnf)
  all_goals
    repeat' ((first | (refine BK.eq (fun h => absurd (hk.symm.trans h) (by decide)) (fun _ => ?_)) | (refine BK.eq (fun _ => ?_) (fun h => absurd hk h)) | (refine BK.dec (fun h => ?_) (fun h => ?_)) | (refine BK.ne (fun h => ?_) (fun h => ?_)) | (refine BK.eq (fun h => ?_) (fun h => ?_)) | (refine BK.mk (fun h => ?_) (fun h => ?_)) | (refine IK.in64 (by first | omega | (dsimp only; omega)) (by first | omega | (dsimp only; omega)) ?_) | (refine NK.mk (by kernel_rfl) ?_) | (refine PK.bool ent136 (names_ok [e.Key] (sw1 l4)) (Subs.cons os_one .nil) (fun h => ?_) (fun h => ?_)) | (refine CK.dec ent138 (edSame ({ Ed.zero with Op := e.Op, Id := e.Id, Key := e.Key, Val := e.Val } : Ed) e xw) (Subs.cons (Sub.agg (by repeat' (first | exact Subs.nil | refine Subs.cons (Sub.refl _) ?_ | refine Subs.cons nil_strs ?_ | refine Subs.cons nil_tgs ?_))) (Subs.cons (Sub.refl _) .nil)) (fun h => ?_) (fun h => ?_))) <;> (conv => whnf))
    all_goals first
      | (refine FK.eq (b_eq ?_); rw [hv, decide_eq_true h]; simp [*]; done)
      | (refine FK.eq (b_eq ?_); rw [hv, decide_eq_false h]; simp [*]; done)
      | (refine FK.eq (b_eq ?_); rw [hv]; simp [*]; done)
theorem validE4 (e : Ed) (he : e.wf) (hk : e.Op = 4) : PSpec Tryz.prog 118 [.agg e.c] (.bool (validE e)) := by
  have l1 := he.id
  have l2 := he.other
  have l3 := he.node
  have l4 := he.key
  have l5 := he.val
  have l6 := he.refs.1
  have hv : validE e = (([e.Id].all nameP && (decide ((e.Refs.length : Int) > 0) && (decide ((e.Refs.length : Int) ≤ 2000) && e.Refs.all nameP))) && decide (({ Ed.zero with Op := e.Op, Id := e.Id, Refs := e.Refs } : Ed) = e)) := by unfold validE editX; rw [hk]; rfl
  have xw : (({ Ed.zero with Op := e.Op, Id := e.Id, Refs := e.Refs } : Ed)).wf := ⟨by first | exact l1 | exact Nat.zero_le _, by first | exact l2 | exact Nat.zero_le _, by first | exact l3 | exact Nat.zero_le _, by first | exact l4 | exact Nat.zero_le _, by first | exact l5 | exact Nat.zero_le _, by first | exact he.refs | exact ⟨Nat.zero_le _, fun s hs => by cases hs⟩, by first | exact he.obj | exact Ob.zero_wf⟩
  refine PSpec.by Tryz.func118 rfl Tryz.ntmps118 [] rfl fun A => ?_
  (conv => whnf)
  refine CK.bool ent136 (names_ok [e.Id] (sw1 l1)) (Subs.cons os_one .nil) (fun h0 => ?_) (fun h0 => ?_) <;> (conv => whnf)
  all_goals
    repeat' ((first | (refine BK.eq (fun h => absurd (hk.symm.trans h) (by decide)) (fun _ => ?_)) | (refine BK.eq (fun _ => ?_) (fun h => absurd hk h)) | (refine BK.dec (fun h => ?_) (fun h => ?_)) | (refine BK.ne (fun h => ?_) (fun h => ?_)) | (refine BK.eq (fun h => ?_) (fun h => ?_)) | (refine BK.mk (fun h => ?_) (fun h => ?_)) | (refine IK.in64 (by first | omega | (dsimp only; omega)) (by first | omega | (dsimp only; omega)) ?_) | (refine NK.mk (by kernel_rfl) ?_) | (refine PK.bool ent136 (names_ok e.Refs he.refs) (Subs.refl _) (fun h => ?_) (fun h => ?_)) | (refine CK.dec ent138 (edSame ({ Ed.zero with Op := e.Op, Id := e.Id, Refs := e.Refs } : Ed) e xw) (Subs.cons (Sub.agg (by repeat' (first | exact Subs.nil | refine Subs.cons (Sub.refl _) ?_ | refine Subs.cons nil_strs ?_ | refine Subs.cons nil_tgs ?_))) (Subs.cons (Sub.refl _) .nil)) (fun h => ?_) (fun h => ?_))) <;> (conv => whnf))
    all_goals first
      | (refine FK.eq (b_eq ?_); rw [hv, decide_eq_true h]; simp only [*, decide_true, decide_false, Bool.true_and, Bool.false_and, Bool.and_true, Bool.and_false]; done)
      | (refine FK.eq (b_eq ?_); rw [hv, decide_eq_false h]; simp only [*, decide_true, decide_false, Bool.true_and, Bool.false_and, Bool.and_true, Bool.and_false]; done)
      | (refine FK.eq (b_eq ?_); rw [hv]; simp only [*, decide_true, decide_false, Bool.true_and, Bool.false_and, Bool.and_true, Bool.and_false]; done)
theorem validE5 (e : Ed) (he : e.wf) (hk : e.Op = 5) : PSpec Tryz.prog 118 [.agg e.c] (.bool (validE e)) := by
  have l1 := he.id
  have l2 := he.other
  have l3 := he.node
  have l4 := he.key
  have l5 := he.val
  have l6 := he.refs.1
  have hv : validE e = (([e.Id].all nameP) && decide (({ Ed.zero with Op := e.Op, Id := e.Id } : Ed) = e)) := by unfold validE editX; rw [hk]; rfl
  have xw : (({ Ed.zero with Op := e.Op, Id := e.Id } : Ed)).wf := ⟨by first | exact l1 | exact Nat.zero_le _, by first | exact l2 | exact Nat.zero_le _, by first | exact l3 | exact Nat.zero_le _, by first | exact l4 | exact Nat.zero_le _, by first | exact l5 | exact Nat.zero_le _, by first | exact he.refs | exact ⟨Nat.zero_le _, fun s hs => by cases hs⟩, by first | exact he.obj | exact Ob.zero_wf⟩
  refine PSpec.by Tryz.func118 rfl Tryz.ntmps118 [] rfl fun A => ?_
  (conv => whnf)
  refine CK.bool ent136 (names_ok [e.Id] (sw1 l1)) (Subs.cons os_one .nil) (fun h0 => ?_) (fun h0 => ?_) <;> (conv => whnf)
  all_goals
    repeat' ((first | (refine BK.eq (fun h => absurd (hk.symm.trans h) (by decide)) (fun _ => ?_)) | (refine BK.eq (fun _ => ?_) (fun h => absurd hk h)) | (refine BK.dec (fun h => ?_) (fun h => ?_)) | (refine BK.ne (fun h => ?_) (fun h => ?_)) | (refine BK.eq (fun h => ?_) (fun h => ?_)) | (refine BK.mk (fun h => ?_) (fun h => ?_)) | (refine IK.in64 (by first | omega | (dsimp only; omega)) (by first | omega | (dsimp only; omega)) ?_) | (refine NK.mk (by kernel_rfl) ?_)  | (refine CK.dec ent138 (edSame ({ Ed.zero with Op := e.Op, Id := e.Id } : Ed) e xw) (Subs.cons (Sub.agg (by repeat' (first | exact Subs.nil | refine Subs.cons (Sub.refl _) ?_ | refine Subs.cons nil_strs ?_ | refine Subs.cons nil_tgs ?_))) (Subs.cons (Sub.refl _) .nil)) (fun h => ?_) (fun h => ?_))) <;> (conv => whnf))
    all_goals first
      | (refine FK.eq (b_eq ?_); rw [hv, decide_eq_true h]; simp [*]; done)
      | (refine FK.eq (b_eq ?_); rw [hv, decide_eq_false h]; simp [*]; done)
      | (refine FK.eq (b_eq ?_); rw [hv]; simp [*]; done)
theorem validE6 (e : Ed) (he : e.wf) (hk : e.Op = 6) : PSpec Tryz.prog 118 [.agg e.c] (.bool (validE e)) := by
  have l1 := he.id
  have l2 := he.other
  have l3 := he.node
  have l4 := he.key
  have l5 := he.val
  have l6 := he.refs.1
  have hv : validE e = (([e.Id].all nameP && [e.Node, e.Other].all nameP) && decide (({ Ed.zero with Op := e.Op, Id := e.Id, Node := e.Node, Other := e.Other } : Ed) = e)) := by unfold validE editX; rw [hk]; rfl
  have xw : (({ Ed.zero with Op := e.Op, Id := e.Id, Node := e.Node, Other := e.Other } : Ed)).wf := ⟨by first | exact l1 | exact Nat.zero_le _, by first | exact l2 | exact Nat.zero_le _, by first | exact l3 | exact Nat.zero_le _, by first | exact l4 | exact Nat.zero_le _, by first | exact l5 | exact Nat.zero_le _, by first | exact he.refs | exact ⟨Nat.zero_le _, fun s hs => by cases hs⟩, by first | exact he.obj | exact Ob.zero_wf⟩
  refine PSpec.by Tryz.func118 rfl Tryz.ntmps118 [] rfl fun A => ?_
  (conv => whnf)
  refine CK.bool ent136 (names_ok [e.Id] (sw1 l1)) (Subs.cons os_one .nil) (fun h0 => ?_) (fun h0 => ?_) <;> (conv => whnf)
  all_goals
    repeat' ((first | (refine BK.eq (fun h => absurd (hk.symm.trans h) (by decide)) (fun _ => ?_)) | (refine BK.eq (fun _ => ?_) (fun h => absurd hk h)) | (refine BK.dec (fun h => ?_) (fun h => ?_)) | (refine BK.ne (fun h => ?_) (fun h => ?_)) | (refine BK.eq (fun h => ?_) (fun h => ?_)) | (refine BK.mk (fun h => ?_) (fun h => ?_)) | (refine IK.in64 (by first | omega | (dsimp only; omega)) (by first | omega | (dsimp only; omega)) ?_) | (refine NK.mk (by kernel_rfl) ?_) | (refine PK.bool ent136 (names_ok [e.Node, e.Other] (sw2 l3 l2)) (Subs.cons os_two .nil) (fun h => ?_) (fun h => ?_)) | (refine CK.dec ent138 (edSame ({ Ed.zero with Op := e.Op, Id := e.Id, Node := e.Node, Other := e.Other } : Ed) e xw) (Subs.cons (Sub.agg (by repeat' (first | exact Subs.nil | refine Subs.cons (Sub.refl _) ?_ | refine Subs.cons nil_strs ?_ | refine Subs.cons nil_tgs ?_))) (Subs.cons (Sub.refl _) .nil)) (fun h => ?_) (fun h => ?_))) <;> (conv => whnf))
    all_goals first
      | (refine FK.eq (b_eq ?_); rw [hv, decide_eq_true h]; simp [*]; done)
      | (refine FK.eq (b_eq ?_); rw [hv, decide_eq_false h]; simp [*]; done)
      | (refine FK.eq (b_eq ?_); rw [hv]; simp [*]; done)
theorem validE7 (e : Ed) (he : e.wf) (hk : e.Op = 7) : PSpec Tryz.prog 118 [.agg e.c] (.bool (validE e)) := by
  have l1 := he.id
  have l2 := he.other
  have l3 := he.node
  have l4 := he.key
  have l5 := he.val
  have l6 := he.refs.1
  have hv : validE e = (([e.Id].all nameP && [e.Other].all nameP) && decide (({ Ed.zero with Op := e.Op, Id := e.Id, Other := e.Other } : Ed) = e)) := by unfold validE editX; rw [hk]; rfl
  have xw : (({ Ed.zero with Op := e.Op, Id := e.Id, Other := e.Other } : Ed)).wf := ⟨by first | exact l1 | exact Nat.zero_le _, by first | exact l2 | exact Nat.zero_le _, by first | exact l3 | exact Nat.zero_le _, by first | exact l4 | exact Nat.zero_le _, by first | exact l5 | exact Nat.zero_le _, by first | exact he.refs | exact ⟨Nat.zero_le _, fun s hs => by cases hs⟩, by first | exact he.obj | exact Ob.zero_wf⟩
  refine PSpec.by Tryz.func118 rfl Tryz.ntmps118 [] rfl fun A => ?_
  (conv => whnf)
  refine CK.bool ent136 (names_ok [e.Id] (sw1 l1)) (Subs.cons os_one .nil) (fun h0 => ?_) (fun h0 => ?_) <;> (conv => whnf)
  all_goals
    repeat' ((first | (refine BK.eq (fun h => absurd (hk.symm.trans h) (by decide)) (fun _ => ?_)) | (refine BK.eq (fun _ => ?_) (fun h => absurd hk h)) | (refine BK.dec (fun h => ?_) (fun h => ?_)) | (refine BK.ne (fun h => ?_) (fun h => ?_)) | (refine BK.eq (fun h => ?_) (fun h => ?_)) | (refine BK.mk (fun h => ?_) (fun h => ?_)) | (refine IK.in64 (by first | omega | (dsimp only; omega)) (by first | omega | (dsimp only; omega)) ?_) | (refine NK.mk (by kernel_rfl) ?_) | (refine PK.bool ent136 (names_ok [e.Other] (sw1 l2)) (Subs.cons os_one .nil) (fun h => ?_) (fun h => ?_)) | (refine CK.dec ent138 (edSame ({ Ed.zero with Op := e.Op, Id := e.Id, Other := e.Other } : Ed) e xw) (Subs.cons (Sub.agg (by repeat' (first | exact Subs.nil | refine Subs.cons (Sub.refl _) ?_ | refine Subs.cons nil_strs ?_ | refine Subs.cons nil_tgs ?_))) (Subs.cons (Sub.refl _) .nil)) (fun h => ?_) (fun h => ?_))) <;> (conv => whnf))
    all_goals first
      | (refine FK.eq (b_eq ?_); rw [hv, decide_eq_true h]; simp [*]; done)
      | (refine FK.eq (b_eq ?_); rw [hv, decide_eq_false h]; simp [*]; done)
      | (refine FK.eq (b_eq ?_); rw [hv]; simp [*]; done)
theorem validE0 (e : Ed) (he : e.wf) (n : ∀ k : Int, 1 ≤ k → k ≤ 7 → e.Op ≠ k) : PSpec Tryz.prog 118 [.agg e.c] (.bool (validE e)) := by
  have l1 := he.id
  have hv : validE e = false := by
    unfold validE editX
    rw [if_neg (n 1 (by decide) (by decide)), if_neg (n 2 (by decide) (by decide)), if_neg (n 3 (by decide) (by decide)), if_neg (n 4 (by decide) (by decide)), if_neg (n 5 (by decide) (by decide)), if_neg (n 6 (by decide) (by decide)), if_neg (n 7 (by decide) (by decide))]
  refine PSpec.by Tryz.func118 rfl Tryz.ntmps118 [] rfl fun A => ?_
  (conv => whnf)
  refine CK.bool ent136 (names_ok [e.Id] (sw1 l1)) (Subs.cons os_one .nil) (fun h0 => ?_) (fun h0 => ?_) <;> (conv => whnf)
  all_goals
    repeat' ((refine BK.eq (fun h => absurd h (n _ (by decide) (by decide))) (fun _ => ?_)) <;> (conv => whnf))
    exact FK.eq (b_eq hv.symm)
theorem validE_ok (e : Ed) (he : e.wf) : PSpec Tryz.prog 118 [.agg e.c] (.bool (validE e)) := by
  by_cases h1 : e.Op = 1
  · exact validE1 e he h1
  by_cases h2 : e.Op = 2
  · exact validE2 e he h2
  by_cases h3 : e.Op = 3
  · exact validE3 e he h3
  by_cases h4 : e.Op = 4
  · exact validE4 e he h4
  by_cases h5 : e.Op = 5
  · exact validE5 e he h5
  by_cases h6 : e.Op = 6
  · exact validE6 e he h6
  by_cases h7 : e.Op = 7
  · exact validE7 e he h7
  exact validE0 e he (fun k a b => by omega)
end Ab
end Go.Proofs.YtpmigkbcldffeaaGreatDoor

/- change.Valid; builders. -/
namespace Go.Proofs.YtpmigkbcldffeaaGreatDoor
namespace Ab
open Go.RowKit Go.Shelf Go.Lib
set_option maxRecDepth 10000
theorem notE_ok (e : Ed) (he : e.wf) : PSpec Tryz.prog 117 [.agg e.c] (.bool (!validE e)) := by
  refine PSpec.by Tryz.func117 rfl Tryz.ntmps117 [] rfl fun A => ?_
  (conv => whnf)
  refine CK.bool ent118 (validE_ok e he) (Subs.refl _) (fun h => ?_) (fun h => ?_) <;> (conv => whnf)
  · exact FK.eq (b_eq (by rw [h]))
  · exact FK.eq (b_eq (by rw [h]))
def validC (l : List Ed) : Bool := decide ((l.length : Int) > 0) && (decide ((l.length : Int) ≤ 200) && l.all validE)
theorem validC_ok (l : List Ed) (hl : BL l.length) (hw : ∀ e ∈ l, e.wf) : PSpec Tryz.prog 96 [eds l] (.bool (validC l)) := by
  have e0 : (!l.any fun s => !validE s) = l.all validE := by simp [List.any_eq_not_all_not]
  refine PSpec.by Tryz.func96 rfl Tryz.ntmps96 [] rfl fun A => ?_
  (conv => whnf)
  refine BK.dec (fun h1 => ?_) (fun h1 => ?_) <;> (conv => whnf)
  · refine BK.dec (fun h2 => ?_) (fun h2 => ?_) <;> (conv => whnf)
    · refine CK.bool ent116 (containsEp l hl _ (fun e => !validE e) ent117 (fun e he => notE_ok e (hw e he))) (Subs.refl _) (fun h => ?_) (fun h => ?_) <;> (conv => whnf)
      · refine FK.eq (b_eq ?_); unfold validC; rw [← e0, h]; simp
      · refine FK.eq (b_eq ?_); unfold validC; rw [← e0, h, decide_eq_true h1, decide_eq_true h2]; rfl
    · refine FK.eq (b_eq ?_); unfold validC; rw [decide_eq_false h2]; simp
  · refine FK.eq (b_eq ?_); unfold validC; rw [decide_eq_false h1]; rfl

/-! ### strings.Builder -/
/-- What a builder at block p holds: its own address or nil; the bytes l, in the row ob. -/
def AO.bld (A : AO) (p : Nat) (a : AV) (l : Str) (ob : Option Nat) : AO := (A.setRow p [a, .os 1 ob l.length (bytesAV l)]).tok ob 1 l.length
theorem copyUsed {w : World} (p : Nat) (h0 : w.cell? ⟨p, 0, none⟩ = some (.pointer (some ⟨p, 0, none⟩))) : Calls Tryz.prog 82 #[.pointer (some ⟨p, 0, none⟩)] w fun e w' => e = .returned (.tuple #[]) ∧ w' = w := by
  obtain ⟨j, hj⟩ : ∃ j, Tryz.prog.info? 108 = some j := ⟨_, rfl⟩
  go_enter Tryz.func82, Tryz.ntmps82
  go_wp2
  rw [Lib.run_neq_ptr_same w _ Tryz.underlying106 hj]
  go_wp2
  go_end0
  exact ⟨rfl, rfl⟩
set_option maxHeartbeats 1000000 in
theorem copyFresh {w : World} (p : Nat) (T : TypeId) (h0 : w.cell? ⟨p, 0, none⟩ = some (.pointer none)) (hsh : w.shape? p = some (T, 2)) (hfz : w.frozen? ⟨p, 0, none⟩ = false) (hlies : liesAt Tryz.prog Tryz.prog.depth T (2 / Tryz.prog.cellsOf T) 0 108 1 = true) :
    Calls Tryz.prog 82 #[.pointer (some ⟨p, 0, none⟩)] w fun e w' => e = .returned (.tuple #[]) ∧ w' = w.setCell ⟨p, 0, none⟩ (.pointer (some ⟨p, 0, none⟩)) := by
  obtain ⟨j, hj, hjs⟩ : ∃ j, Tryz.prog.info? 108 = some j ∧ j.size ≠ 0 := ⟨_, rfl, by decide⟩
  go_enter Tryz.func82, Tryz.ntmps82
  go_wp2
  rw [Lib.run_to_unsafe w ⟨p, 0, none⟩ Tryz.underlying106 Tryz.underlying155 hj hjs hsh (Nat.zero_lt_succ 1)]
  simp only [Result.andThen]
  rw [Oper.upon_value]
  go_wp2
  rw [run_callFunc_extern Tryz.func106 (by kernel_rfl) (by kernel_rfl) (by kernel_rfl) (e := Extern.AbiNoEscape.same) (by kernel_rfl)]
  rw [Lib.run_noEscape]
  simp only [Result.andThen]
  rw [Oper.upon_value]
  go_wp2
  rw [Lib.run_from_unsafe w ⟨p, 0, none⟩ Tryz.underlying155 Tryz.underlying106 hj hsh hlies]
  simp only [Result.andThen]
  rw [Oper.upon_value]
  go_wp2
  go_end0
  exact ⟨rfl, rfl⟩
theorem setRow_self {A : AO} {p : Nat} {cs : List AV} (h : A.rows p = some cs) : A.setRow p cs = A := by
  refine AO.ext' (fun q => ?_) (fun q => rfl) (fun q => rfl) (fun q => rfl)
  show (if q = p then some cs else A.rows q) = A.rows q
  by_cases e : q = p
  · rw [if_pos e, e, h]
  · rw [if_neg e]
/-- A builder may lie there. -/
def bldTy (T : TypeId) : Prop := liesAt Tryz.prog Tryz.prog.depth T (2 / Tryz.prog.cellsOf T) 0 108 1 = true
theorem copyCheck_ok (p : Nat) (a b : AV) (A : AO) (T : TypeId) (ha : a = .nilp ∨ a = .gp p 0) (hp : A.rows p = some [a, b]) (ht : A.tys p = some T) (hT : bldTy T) :
    ASpec Tryz.prog 82 [.gp p 0] A (fun v B => v = .tup [] ∧ B = A.setRow p [.gp p 0, b]) := by
  intro g w Vs hI hC hV
  obtain ⟨V, rfl, h1⟩ := vl1 hV
  have hV1 : V = .pointer (some ⟨p, 0, none⟩) := VR.is_gp h1
  subst hV1
  obtain ⟨⟨L, T0, hb, hL⟩, hS⟩ := hI.rows p _ hp
  obtain ⟨X, L1, rfl, hX, hL1⟩ := hL.toVL.inv_cons
  obtain ⟨Y, L2, rfl, hY, hL2⟩ := hL1.inv_cons
  obtain rfl := hL2.inv_nil
  obtain ⟨arr, fr, hb2⟩ := hI.tys p T ht
  have hT0 : T0 = T := by rw [hb] at hb2; injection hb2 with hb2; injection hb2
  subst hT0
  have hr : VR g (.tup []) (.tuple #[]) := VR.mk_tup (VL.nil g)
  rcases ha with rfl | rfl
  · have hX0 : X = .pointer none := by cases hX; rfl
    subst hX0
    refine (copyFresh p T0 (by simp [World.cell?, hb]) (by simp [World.shape?, hb]) (by simp [World.frozen?, hb]) hT).mono ?_
    rintro e w' ⟨rfl, rfl⟩
    have hF : FR { N := 0, A0 := A, g0 := g, w0 := w, cst := hC } (fun _ => none) (fun _ => none) A g (fun _ => 0) { tmps := #[], defers := [] } w :=
      ⟨rfl, rfl, fun t v h => (by cases h), fun i cs h => (by cases h), fun i j h => absurd rfl h, hI, St.refl _ _ _⟩
    have h2 := hF.writeRow hp [.gp p 0, b] [.pointer (some ⟨p, 0, none⟩), Y] ⟨VL.cons (.gp p 0) (VL.cons hY (VL.nil g)), fun v hv => by
      rcases List.mem_cons.1 hv with rfl | hv
      · rfl
      · rw [List.mem_singleton.1 hv]; exact hL.one Y (by simp)⟩
    have hw : w.setCell ⟨p, 0, none⟩ (.pointer (some ⟨p, 0, none⟩)) = w.setRow p #[.pointer (some ⟨p, 0, none⟩), Y] := setCell_eq_setRow w p 0 _ _ _ _ hb
    rw [hw]
    exact ⟨.tup [], _, g, _, rfl, ⟨rfl, rfl⟩, hr, h2.inv, h2.st⟩
  · have hX0 : X = .pointer (some ⟨p, 0, none⟩) := VR.is_gp hX
    subst hX0
    refine (copyUsed p (by simp [World.cell?, hb])).mono ?_
    rintro e w' ⟨rfl, rfl⟩
    exact ⟨.tup [], A, g, _, rfl, ⟨rfl, (setRow_self hp).symm⟩, hr, hI, St.refl _ _ _⟩
end Ab
end Go.Proofs.YtpmigkbcldffeaaGreatDoor

/- strings.Builder: writing. -/
namespace Go.Proofs.YtpmigkbcldffeaaGreatDoor
namespace Ab
open Go.RowKit Go.Shelf Go.Lib
set_option maxRecDepth 10000
def AO.tyO (A : AO) (ob : Option Nat) (T : TypeId) : AO :=
  match ob with
  | none => A
  | some b => A.setTy b T
/-- A builder at block p, of a type T, that holds l, in the row ob. -/
def AO.bl (A : AO) (p : Nat) (T : TypeId) (a : AV) (sz : Nat) (l : Str) (ob : Option Nat) : AO := (((A.setTy p T).setRow p [a, .os sz ob l.length (bytesAV l)]).tok ob 1 l.length).tyO ob 5
theorem bl_rows {A : AO} {p : Nat} {T : TypeId} {a : AV} {sz : Nat} {l : Str} {ob : Option Nat} : (A.bl p T a sz l ob).rows p = some [a, .os sz ob l.length (bytesAV l)] := by
  cases ob <;> exact setRow_at
theorem bl_tys {A : AO} {p : Nat} {T : TypeId} {a : AV} {sz : Nat} {l : Str} {ob : Option Nat} (h : ∀ b, ob = some b → b ≠ p) : (A.bl p T a sz l ob).tys p = some T := by
  cases ob with
  | none => show (if p = p then _ else _) = _; simp
  | some b => show (if p = b then _ else if p = p then _ else _) = _; rw [if_neg (fun e => h b rfl e.symm)]; simp
theorem bl_mut {A : AO} {p : Nat} {T : TypeId} {a : AV} {sz : Nat} {l : Str} {ob : Option Nat} {q : Nat} (h : A.mut q) : (A.bl p T a sz l ob).mut q := by
  by_cases e : q = p
  · subst e; exact .inl (by rw [bl_rows]; simp)
  rcases h with h | h | h | h
  · refine .inl ?_
    cases ob <;> (show (if q = p then _ else A.rows q) ≠ none; rw [if_neg e]; exact h)
  · refine .inr (.inl ?_)
    cases ob with
    | none => exact h
    | some b => show (if q = b then some (1, l.length) else A.toks q) ≠ none; split <;> simp [h]
  · exact .inr (.inr (.inl (by cases ob <;> exact h)))
  · refine .inr (.inr (.inr ?_))
    cases ob with
    | none => show (if q = p then _ else A.tys q) ≠ none; rw [if_neg e]; exact h
    | some b =>
      show (if q = b then _ else if q = p then _ else A.tys q) ≠ none
      rw [if_neg e]
      split
      · simp
      · exact h
theorem setRow_mut {A : AO} {p q : Nat} {cs : List AV} (h : A.mut q) : (A.setRow p cs).mut q := by
  rcases h with h | h | h | h
  · refine .inl ?_
    show (if q = p then _ else _) ≠ none
    split
    · simp
    · exact h
  · exact .inr (.inl h)
  · exact .inr (.inr (.inl h))
  · exact .inr (.inr (.inr h))
theorem AK.one2 {A : AO} {sz0 sz bytes : Nat} {T : TypeId} {ob : Option Nat} {e : Nat} {rows new : List (List AV)} {K : Option Nat → AO → Prop} {x : List AV} (hn : new = [x]) (hx : x.length = sz) (h1 : rows.length = e) (h0 : rows = [] ∨ sz0 = sz)
    (h2 : ∀ b, ob = some b → A.toks b = some (sz, e)) (h4 : (e + 1) * (bytes + 1) ≤ 70368744177664)
    (h5 : ∀ ob' A', After A ob ob' sz (e + 1) T A' → (ob = none → ob' ≠ none) → K ob' A') : AK A sz0 sz bytes T ob e rows new K := by
  subst hn
  exact AK.mk2 h1 h0 h2 (by intro r hr; rw [List.mem_singleton.1 hr]; exact hx) h4 (fun ob' A' h k => h5 ob' A' h (fun e => k e (by simp)))
theorem bytes_append (l s : Str) : bytesAV l ++ bytesAV s = bytesAV (l ++ s) := by simp [bytesAV]
theorem bytes_len (l : Str) : (bytesAV l).length = l.length := by simp [bytesAV]
/-- The builder goes on. -/
theorem bl_next {A A' : AO} {p : Nat} {T : TypeId} {a : AV} {sz : Nat} {l s : Str} {ob ob' : Option Nat} {c c' : List AV} {n : Nat} (hob : ∀ b, ob = some b → ¬ A.mut b) (hne : ∀ b, ob = some b → b ≠ p) (hn : n = (l ++ s).length) (hc : c' = [.gp p 0, .os 1 ob' (l ++ s).length (bytesAV (l ++ s))])
    (h : After ((A.bl p T a sz l ob).setRow p c) ob ob' 1 n 5 A') : (A'.setRow p c').le (A.bl p T (.gp p 0) 1 (l ++ s) ob') := by
  subst hc; subst hn
  have hrows := h.rows
  refine ⟨fun q cs hq => ?_, fun q x hq => ?_, fun q x hq => ?_, fun q x hq => ?_⟩
  · by_cases e : q = p
    · subst e
      rw [bl_rows] at hq
      injection hq with hq; subst hq
      exact ⟨_, setRow_at, Subs.refl _⟩
    · refine ⟨cs, ?_, Subs.refl _⟩
      have h1 : A.rows q = some cs := by
        have : (A.bl p T (.gp p 0) 1 (l ++ s) ob').rows q = A.rows q := by
          cases ob' <;> (show (if q = p then _ else A.rows q) = _; rw [if_neg e])
        rw [← this]; exact hq
      rw [setRow_row e, hrows, setRow_row e]
      cases ob <;> (show (if q = p then _ else A.rows q) = _; rw [if_neg e]; exact h1)
  · have key : ((((A.bl p T a sz l ob).setRow p c).kill ob).tok ob' 1 (l ++ s).length).toks q = some x := by
      cases ob' with
      | none =>
        have h1 : A.toks q = some x := hq
        cases ob with
        | none => exact h1
        | some b =>
          show (if q = b then none else if q = b then some (1, l.length) else A.toks q) = some x
          have : q ≠ b := fun e => hob b rfl (.inr (.inl (by rw [← e, h1]; simp)))
          rw [if_neg this, if_neg this]; exact h1
      | some b' =>
        have h1 : (if q = b' then some (1, (l ++ s).length) else A.toks q) = some x := hq
        show (if q = b' then some (1, (l ++ s).length) else (((A.bl p T a sz l ob).setRow p c).kill ob).toks q) = some x
        by_cases e : q = b'
        · rw [if_pos e] at h1 ⊢; exact h1
        · rw [if_neg e] at h1 ⊢
          cases ob with
          | none => exact h1
          | some b =>
            show (if q = b then none else if q = b then some (1, l.length) else A.toks q) = some x
            have : q ≠ b := fun e => hob b rfl (.inr (.inl (by rw [← e, h1]; simp)))
            rw [if_neg this, if_neg this]; exact h1
    rcases h with ⟨_, rfl⟩ | ⟨_, _, _, rfl⟩ <;> exact key
  · rcases h with ⟨_, rfl⟩ | ⟨_, _, _, rfl⟩ <;> (cases ob <;> cases ob' <;> exact hq)
  · rcases h with ⟨rfl, rfl⟩ | ⟨p', rfl, hp', rfl⟩
    · cases ob' <;> exact hq
    · have h1 : (if q = p' then some 5 else if q = p then some T else A.tys q) = some x := hq
      show (if q = p' then some 5 else ((((A.bl p T a sz l ob).setRow p c).kill ob).tok (some p') 1 (l ++ s).length).tys q) = some x
      by_cases e : q = p'
      · rw [if_pos e] at h1 ⊢; exact h1
      · rw [if_neg e] at h1 ⊢
        cases ob with
        | none => exact h1
        | some b =>
          show (if q = b then _ else if q = p then _ else A.tys q) = some x
          have hb : q ≠ b := by
            rintro rfl
            rw [if_neg (hne q rfl)] at h1
            exact hob q rfl (.inr (.inr (.inr (by rw [h1]; simp))))
          rw [if_neg hb]; exact h1
/-- The row that the bytes lie in. -/
structure BI (A : AO) (p : Nat) (ob : Option Nat) (l : Str) : Prop where
  fresh : ∀ b, ob = some b → ¬ A.mut b
  ne : ∀ b, ob = some b → b ≠ p
  nil : ob = none → l = []
theorem BI.zero {A : AO} {p : Nat} : BI A p none [] := ⟨fun _ h => (by cases h), fun _ h => (by cases h), fun _ => rfl⟩
theorem ws_ok (p : Nat) (T : TypeId) (a : AV) (sz : Nat) (l s : Str) (ob : Option Nat) (A : AO) (hT : bldTy T) (ha : a = .nilp ∨ a = .gp p 0) (hsz : l = [] ∨ sz = 1) (hB : BI A p ob l) (hlen : l.length + s.length ≤ 1099511627776) :
    ASpec Tryz.prog 56 [.gp p 0, .str s] (A.bl p T a sz l ob) (fun v B => v = .tup [.int .i64 s.length, .raw .nilIface] ∧ ∃ ob', BI A p ob' (l ++ s) ∧ B = A.bl p T (.gp p 0) 1 (l ++ s) ob') := by
  refine ASpec.by Tryz.func56 rfl Tryz.ntmps56 [] rfl ?_
  (conv => whnf)
  refine CK.mk ent82 (copyCheck_ok p a _ _ T ha bl_rows (bl_tys hB.ne) hT) (Subs.refl _) ?_
  rintro _ _ ⟨rfl, rfl⟩
  (conv => whnf)
  refine GK.mk _ setRow_at ?_
  (conv => whnf)
  refine AK.mk2 (bytes_len l) (hsz.imp (fun h => by rw [h]; rfl) id) (fun b hb => ?_) (fun r hr => ?_) ?_ ?_
  · subst hb
    show (if b = b then some (1, l.length) else _) = some (1, l.length); simp
  · obtain ⟨c, _, rfl⟩ := List.mem_map.1 hr; rfl
  · rw [bytes_len]
    show (l.length + s.length) * 2 ≤ _
    omega
  intro ob' A' h' hnn
  have hob := hB.fresh
  have hp := hB.ne
  (conv => whnf)
  refine GK.mk [.gp p 0, .os sz ob l.length (bytesAV l)] (show A'.rows p = _ by rw [show A'.rows = _ from After.rows h']; exact setRow_at) ?_
  (conv => whnf)
  have hn : l.length + (bytesAV s).length = (l ++ s).length := by rw [bytes_len, List.length_append]
  refine FK.mk (Sub.refl _) (bl_next (s := s) (ob' := ob') hob hp hn (by rw [bytes_append, hn]; rfl) h') ⟨rfl, ob', ⟨fun b hb => ?_, fun b hb => ?_, fun hb => ?_⟩, rfl⟩
  · rcases After.or h' with h' | ⟨q, h', hq⟩
    · exact hob b (h'.symm.trans hb)
    · rw [hb] at h'; injection h' with h'; subst h'
      exact fun hm => hq (setRow_mut (bl_mut hm))
  · rcases After.or h' with h' | ⟨q, h', hq⟩
    · exact hp b (h'.symm.trans hb)
    · rw [hb] at h'; injection h' with h'; subst h'
      rintro rfl
      exact hq (.inl (by show ((A.bl b T a sz l ob).setRow b _).rows b ≠ none; rw [setRow_at]; simp))
  · have h0 : ob = none := by
      rcases After.or h' with h' | ⟨q, h', _⟩
      · exact h'.symm.trans hb
      · rw [hb] at h'; cases h'
    have hs : s = [] := Classical.byContradiction fun hs => hnn h0 (by cases s; exact absurd rfl hs; simp [bytesAV]) hb
    rw [hB.nil h0, hs]; rfl
theorem wb_ok (p : Nat) (T : TypeId) (a : AV) (sz : Nat) (l : Str) (x : UInt8) (ob : Option Nat) (A : AO) (hT : bldTy T) (ha : a = .nilp ∨ a = .gp p 0) (hsz : l = [] ∨ sz = 1) (hB : BI A p ob l) (hlen : l.length ≤ 1099511627775) :
    ASpec Tryz.prog 58 [.gp p 0, .int .u8 x.toNat] (A.bl p T a sz l ob) (fun v B => v = .raw .nilIface ∧ ∃ ob', BI A p ob' (l ++ [x]) ∧ B = A.bl p T (.gp p 0) 1 (l ++ [x]) ob') := by
  refine ASpec.by Tryz.func58 rfl Tryz.ntmps58 [] rfl ?_
  (conv => whnf)
  refine CK.mk ent82 (copyCheck_ok p a _ _ T ha bl_rows (bl_tys hB.ne) hT) (Subs.refl _) ?_
  rintro _ _ ⟨rfl, rfl⟩
  (conv => whnf)
  refine GK.mk _ setRow_at ?_
  (conv => whnf)
  refine AK.one2 (x := [.int .u8 x.toNat]) (by kernel_rfl) rfl (bytes_len l) (hsz.imp (fun h => by rw [h]; rfl) id) (fun b hb => ?_) ?_ ?_
  · subst hb
    show (if b = b then some (1, l.length) else _) = some (1, l.length); simp
  · show (l.length + 1) * 2 ≤ _
    omega
  intro ob' A' h' hnn
  have hob := hB.fresh
  have hp := hB.ne
  (conv => whnf)
  refine GK.mk [.gp p 0, .os sz ob l.length (bytesAV l)] (show A'.rows p = _ by rw [show A'.rows = _ from After.rows h']; exact setRow_at) ?_
  (conv => whnf)
  have hn : l.length + 1 = (l ++ [x]).length := by simp
  refine FK.mk (Sub.refl _) (bl_next (s := [x]) (ob' := ob') hob hp hn (by rw [← bytes_append, ← hn]; rfl) h') ⟨rfl, ob', ⟨fun b hb => ?_, fun b hb => ?_, fun hb => ?_⟩, rfl⟩
  · rcases After.or h' with h' | ⟨q, h', hq⟩
    · exact hob b (h'.symm.trans hb)
    · rw [hb] at h'; injection h' with h'; subst h'
      exact fun hm => hq (setRow_mut (bl_mut hm))
  · rcases After.or h' with h' | ⟨q, h', hq⟩
    · exact hp b (h'.symm.trans hb)
    · rw [hb] at h'; injection h' with h'; subst h'
      rintro rfl
      exact hq (.inl (by show ((A.bl b T a sz l ob).setRow b _).rows b ≠ none; rw [setRow_at]; simp))
  · have h0 : ob = none := by
      rcases After.or h' with h' | ⟨q, h', _⟩
      · exact h'.symm.trans hb
      · rw [hb] at h'; cases h'
    exact absurd hb (hnn h0)
theorem bl_len (p : Nat) (T : TypeId) (a : AV) (sz : Nat) (l : Str) (ob : Option Nat) (A : AO) : ASpec Tryz.prog 98 [.gp p 0] (A.bl p T a sz l ob) (fun v B => v = .int .i64 l.length ∧ B = A.bl p T a sz l ob) := by
  refine ASpec.by Tryz.func98 rfl Tryz.ntmps98 [] rfl ?_
  (conv => whnf)
  refine GK.mk _ bl_rows ?_
  (conv => whnf)
  exact FK.mk (Sub.refl _) (AO.le.refl _) ⟨by rw [bytes_len], rfl⟩
end Ab
end Go.Proofs.YtpmigkbcldffeaaGreatDoor
