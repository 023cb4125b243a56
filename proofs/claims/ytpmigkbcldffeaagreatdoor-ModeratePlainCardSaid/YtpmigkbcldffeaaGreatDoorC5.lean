/- Sizes: planisphereref27.Few and what it calls. -/
import Derived.Test.YtpmigkbcldffeaaGreatDoorC4
import Derived.Test.YtpmigkbcldffeaaGreatDoorShelf
import Derived.Shelf.Abstract
import Derived.Lib.AppendIntMem
import Derived.Shelf.Strings.SlTrimAscii
set_option linter.unusedVariables false
set_option linter.unusedSimpArgs false
set_option linter.unusedSectionVars false
namespace Go.Proofs.YtpmigkbcldffeaaGreatDoor
namespace Ab
set_option maxRecDepth 10000
/-- The rows know less, one by one. -/
theorem rows_sub {g : Gh} {b o sz : Nat} {rows rows' : List (List AV)} (h : g.rows b o sz rows) (hl : rows.length = rows'.length) (k : ∀ i (h : i < rows.length) (h' : i < rows'.length), Subs rows[i] rows'[i]) : g.rows b o sz rows' := fun i hi => by
  obtain ⟨L, h1, h2, h3⟩ := h i (hl ▸ hi)
  exact ⟨L, (k i (hl ▸ hi) hi).cl h1, h2, h3⟩
theorem Sub.os_rows {sz n : Nat} {rows rows' : List (List AV)} (hl : rows.length = rows'.length) (k : ∀ i (h : i < rows.length) (h' : i < rows'.length), Subs rows[i] rows'[i]) : Sub (.os sz none n rows) (.os sz none n rows') := fun g V h => by
  rcases h.inv_os with ⟨_, he, A, rfl, hr⟩ | ⟨b, c, C, h, _⟩
  · by_cases h0 : 0 < n
    · obtain ⟨b, o, rfl, hq⟩ := hr h0
      exact VR.mk_osf (hl ▸ he) (rows_sub hq hl k)
    · have : n = 0 := by omega
      subst this
      have : rows' = [] := List.eq_nil_of_length_eq_zero (by omega)
      subst this
      exact .os0 _ _
  · cases h
theorem Sub.trans {a b c : AV} (h : Sub a b) (k : Sub b c) : Sub a c := fun g V r => k g V (h g V r)
def lss (l : List (List Str)) : AV := .sl 1 l.length (l.map fun x => [strs x])

theorem all_take_succ {α : Type} {p : α → Bool} {l : List α} {k : Nat} (h : k < l.length) (ha : (l.take k).all p = true) (hp : p l[k] = true) : (l.take (k + 1)).all p = true := by
  rw [List.take_succ_eq_append_getElem h, List.all_append, ha]; simp [hp]
theorem all_not {α : Type} {p : α → Bool} {l : List α} {k : Nat} (h : k < l.length) (hp : p l[k] = false) : l.all p = false := by
  rw [List.all_eq_false]; exact ⟨l[k], List.getElem_mem h, by simp [hp]⟩
theorem all_end {α : Type} {p : α → Bool} {l : List α} {k : Nat} (h : k = l.length) (ha : (l.take k).all p = true) : l.all p = true := by
  subst h; rwa [List.take_length] at ha

def okStr (s : Str) : Bool := decide (s.length ≤ 300)
def okStrs (l : List Str) : Bool := decide (l.length ≤ 30) && l.all okStr
theorem refLists (ls : List (List Str)) (h0 : BL ls.length) (hw : ∀ l ∈ ls, SW l) : PSpec Tryz.prog 31 [lss ls] (.bool (ls.all okStrs)) := by
  refine PSpec.by Tryz.func31 rfl Tryz.ntmps31 [] rfl fun A => ?_
  (conv => whnf)
  refine LK.mk (ι := {k : Nat // k ≤ ls.length ∧ (ls.take k).all okStrs = true}) (fun k => [(0, .v (lss ls)), (3, .v (.int .i64 k.1))]) (fun _ => []) (fun _ => A) (fun k => ls.length - k.1) ⟨0, by simp⟩ ?_ ?_
  · exact ⟨⟨Sub.refl _, Sub.refl _, trivial⟩, trivial, AO.le.refl _⟩
  rintro ⟨k, hk, he⟩
  (conv => whnf)
  (first | (refine BK.dec (fun h => ?_) (fun h => ?_)) | (refine BK.ne (fun h => ?_) (fun h => ?_)) | (refine BK.eq (fun h => ?_) (fun h => ?_)) | (refine BK.mk (fun h => ?_) (fun h => ?_)) | (refine IK.in64 (by first | omega | (dsimp only; omega)) (by first | omega | (dsimp only; omega)) ?_) | (refine NK.mk (by kernel_rfl) ?_)) <;> (conv => whnf)
  · have hk' : k < ls.length := by simpa using h
    refine RK.mk k _ rfl (map_get hk') ?_
    (conv => whnf)
    (first | (refine BK.dec (fun h => ?_) (fun h => ?_)) | (refine BK.ne (fun h => ?_) (fun h => ?_)) | (refine BK.eq (fun h => ?_) (fun h => ?_)) | (refine BK.mk (fun h => ?_) (fun h => ?_)) | (refine IK.in64 (by first | omega | (dsimp only; omega)) (by first | omega | (dsimp only; omega)) ?_) | (refine NK.mk (by kernel_rfl) ?_)) <;> (conv => whnf)
    · refine FK.eq (b_eq (all_not hk' ?_).symm)
      unfold okStrs; simp; omega
    have hl : (ls[k]).length ≤ 30 := by omega
    have hs := hw _ (List.getElem_mem hk')
    refine LK.mk (ι := {j : Nat // j ≤ (ls[k]).length ∧ ((ls[k]).take j).all okStr = true}) (fun j => [(0, .v (lss ls)), (3, .v (.int .i64 k)), (4, .v (.int .i64 j.1))]) (fun _ => []) (fun _ => A) (fun j => (ls[k]).length - j.1) ⟨0, by simp⟩ ?_ ?_
    · exact ⟨⟨Sub.refl _, Sub.refl _, Sub.refl _, trivial⟩, trivial, AO.le.refl _⟩
    rintro ⟨j, hj, hej⟩
    (conv => whnf)
    refine RK.mk k _ rfl (map_get hk') ?_
    (conv => whnf)
    (first | (refine BK.dec (fun h => ?_) (fun h => ?_)) | (refine BK.ne (fun h => ?_) (fun h => ?_)) | (refine BK.eq (fun h => ?_) (fun h => ?_)) | (refine BK.mk (fun h => ?_) (fun h => ?_)) | (refine IK.in64 (by first | omega | (dsimp only; omega)) (by first | omega | (dsimp only; omega)) ?_) | (refine NK.mk (by kernel_rfl) ?_)) <;> (conv => whnf)
    · have hj' : j < (ls[k]).length := by simpa using h
      refine RK.mk k _ rfl (map_get hk') ?_
      (conv => whnf)
      refine RK.mk j _ rfl (map_get hj') ?_
      (conv => whnf)
      (first | (refine BK.dec (fun h => ?_) (fun h => ?_)) | (refine BK.ne (fun h => ?_) (fun h => ?_)) | (refine BK.eq (fun h => ?_) (fun h => ?_)) | (refine BK.mk (fun h => ?_) (fun h => ?_)) | (refine IK.in64 (by first | omega | (dsimp only; omega)) (by first | omega | (dsimp only; omega)) ?_) | (refine NK.mk (by kernel_rfl) ?_)) <;> (conv => whnf)
      · refine FK.eq (b_eq (all_not hk' ?_).symm)
        have : (ls[k]).all okStr = false := all_not hj' (by unfold okStr; simp; omega)
        unfold okStrs; simp only [this, Bool.and_false]
      · repeat' ((first | (refine BK.dec (fun h => ?_) (fun h => ?_)) | (refine BK.ne (fun h => ?_) (fun h => ?_)) | (refine BK.eq (fun h => ?_) (fun h => ?_)) | (refine BK.mk (fun h => ?_) (fun h => ?_)) | (refine IK.in64 (by first | omega | (dsimp only; omega)) (by first | omega | (dsimp only; omega)) ?_) | (refine NK.mk (by kernel_rfl) ?_)) <;> (conv => whnf))
        exact ⟨⟨j + 1, hj', all_take_succ hj' hej (by unfold okStr; simp; omega)⟩, ⟨⟨Sub.refl _, Sub.refl _, Sub.refl _, trivial⟩, trivial, AO.le.refl _⟩, by simp; omega⟩
    · have hj' : j = (ls[k]).length := by simp at h; omega
      repeat' ((first | (refine BK.dec (fun h => ?_) (fun h => ?_)) | (refine BK.ne (fun h => ?_) (fun h => ?_)) | (refine BK.eq (fun h => ?_) (fun h => ?_)) | (refine BK.mk (fun h => ?_) (fun h => ?_)) | (refine IK.in64 (by first | omega | (dsimp only; omega)) (by first | omega | (dsimp only; omega)) ?_) | (refine NK.mk (by kernel_rfl) ?_)) <;> (conv => whnf))
      exact ⟨⟨k + 1, hk', all_take_succ hk' he (by unfold okStrs; simp only [all_end hj' hej, Bool.and_true]; simpa using hl)⟩, ⟨⟨Sub.refl _, Sub.refl _, trivial⟩, trivial, AO.le.refl _⟩, by simp; omega⟩
  · have hk' : k = ls.length := by simp at h; omega
    exact FK.eq (b_eq (all_end hk' he).symm)
def okTag (t : Tg) : Bool := decide (t.Key.length + t.Val.length ≤ 600)
def Ob.few (m : Int) (o : Ob) : Bool := decide (o.Id.length ≤ 300) && decide ((o.Refs.length : Int) ≤ m) && decide (o.Tags.length ≤ 65) && o.Refs.all okStr && o.Tags.all okTag
theorem refFewOb (o : Ob) (m : Int) (ho : o.wf) : PSpec Tryz.prog 61 [.agg o.c, .int .i64 m] (.bool (o.few m)) := by
  refine PSpec.by Tryz.func61 rfl Tryz.ntmps61 [] rfl fun A => ?_
  have h1 := ho.refs.1
  have h2 := ho.tags
  (conv => whnf)
  repeat' ((first | (refine BK.dec (fun h => ?_) (fun h => ?_)) | (refine BK.ne (fun h => ?_) (fun h => ?_)) | (refine BK.eq (fun h => ?_) (fun h => ?_)) | (refine BK.mk (fun h => ?_) (fun h => ?_)) | (refine IK.in64 (by first | omega | (dsimp only; omega)) (by first | omega | (dsimp only; omega)) ?_) | (refine NK.mk (by kernel_rfl) ?_)) <;> (conv => whnf))
  all_goals first
    | (refine FK.eq (b_eq ?_); unfold Ob.few; simp; omega)
    | skip
  have b1 : o.Id.length ≤ 300 := by omega
  have b2 : (o.Refs.length : Int) ≤ m := by omega
  have b3 : o.Tags.length ≤ 65 := by omega
  refine LK.mk (ι := {j : Nat // j ≤ o.Refs.length ∧ (o.Refs.take j).all okStr = true}) (fun j => [(2, .lp 0 0), (5, .v (.int .i64 j.1))]) (fun _ => [o.c]) (fun _ => A) (fun j => o.Refs.length - j.1) ⟨0, by simp⟩ ?_ ?_
  · exact ⟨⟨⟨rfl, rfl, Nat.le_of_ble_eq_true rfl⟩, Sub.refl _, trivial⟩, ⟨Subs.refl _, trivial⟩, AO.le.refl _⟩
  rintro ⟨j, hj, hej⟩
  (conv => whnf)
  (first | (refine BK.dec (fun h => ?_) (fun h => ?_)) | (refine BK.ne (fun h => ?_) (fun h => ?_)) | (refine BK.eq (fun h => ?_) (fun h => ?_)) | (refine BK.mk (fun h => ?_) (fun h => ?_)) | (refine IK.in64 (by first | omega | (dsimp only; omega)) (by first | omega | (dsimp only; omega)) ?_) | (refine NK.mk (by kernel_rfl) ?_)) <;> (conv => whnf)
  · have hj' : j < o.Refs.length := by simpa using h
    refine RK.mk j _ rfl (map_get hj') ?_
    (conv => whnf)
    (first | (refine BK.dec (fun h => ?_) (fun h => ?_)) | (refine BK.ne (fun h => ?_) (fun h => ?_)) | (refine BK.eq (fun h => ?_) (fun h => ?_)) | (refine BK.mk (fun h => ?_) (fun h => ?_)) | (refine IK.in64 (by first | omega | (dsimp only; omega)) (by first | omega | (dsimp only; omega)) ?_) | (refine NK.mk (by kernel_rfl) ?_)) <;> (conv => whnf)
    · refine FK.eq (b_eq ?_)
      have : o.Refs.all okStr = false := all_not hj' (by unfold okStr; simp; omega)
      unfold Ob.few; simp [this]
    · repeat' ((first | (refine BK.dec (fun h => ?_) (fun h => ?_)) | (refine BK.ne (fun h => ?_) (fun h => ?_)) | (refine BK.eq (fun h => ?_) (fun h => ?_)) | (refine BK.mk (fun h => ?_) (fun h => ?_)) | (refine IK.in64 (by first | omega | (dsimp only; omega)) (by first | omega | (dsimp only; omega)) ?_) | (refine NK.mk (by kernel_rfl) ?_)) <;> (conv => whnf))
      exact ⟨⟨j + 1, hj', all_take_succ hj' hej (by unfold okStr; simp; omega)⟩, ⟨⟨⟨rfl, rfl, Nat.le_of_ble_eq_true rfl⟩, Sub.refl _, trivial⟩, ⟨Subs.refl _, trivial⟩, AO.le.refl _⟩, by simp; omega⟩
  have hj' : j = o.Refs.length := by simp at h; omega
  have hr := all_end hj' hej
  refine LK.mk (ι := {j : Nat // j ≤ o.Tags.length ∧ (o.Tags.take j).all okTag = true}) (fun j => [(2, .lp 0 0), (6, .v (.int .i64 j.1))]) (fun _ => [o.c]) (fun _ => A) (fun j => o.Tags.length - j.1) ⟨0, by simp⟩ ?_ ?_
  · exact ⟨⟨⟨rfl, rfl, Nat.le_of_ble_eq_true rfl⟩, Sub.refl _, trivial⟩, ⟨Subs.refl _, trivial⟩, AO.le.refl _⟩
  rintro ⟨j, hj, hej⟩
  (conv => whnf)
  (first | (refine BK.dec (fun h => ?_) (fun h => ?_)) | (refine BK.ne (fun h => ?_) (fun h => ?_)) | (refine BK.eq (fun h => ?_) (fun h => ?_)) | (refine BK.mk (fun h => ?_) (fun h => ?_)) | (refine IK.in64 (by first | omega | (dsimp only; omega)) (by first | omega | (dsimp only; omega)) ?_) | (refine NK.mk (by kernel_rfl) ?_)) <;> (conv => whnf)
  · have hj' : j < o.Tags.length := by simpa using h
    have ht := ho.tag _ (List.getElem_mem hj')
    have t1 := ht.1
    have t2 := ht.2
    refine RK.mk j _ rfl (map_get hj') ?_
    (conv => whnf)
    refine RK.mk j _ rfl (map_get hj') ?_
    (conv => whnf)
    repeat' ((first | (refine BK.dec (fun h => ?_) (fun h => ?_)) | (refine BK.ne (fun h => ?_) (fun h => ?_)) | (refine BK.eq (fun h => ?_) (fun h => ?_)) | (refine BK.mk (fun h => ?_) (fun h => ?_)) | (refine IK.in64 (by first | omega | (dsimp only; omega)) (by first | omega | (dsimp only; omega)) ?_) | (refine NK.mk (by kernel_rfl) ?_)) <;> (conv => whnf))
    · refine FK.eq (b_eq ?_)
      have : o.Tags.all okTag = false := all_not hj' (by unfold okTag; simp; omega)
      unfold Ob.few; simp [this]
    · exact ⟨⟨j + 1, hj', all_take_succ hj' hej (by unfold okTag; simp; omega)⟩, ⟨⟨⟨rfl, rfl, Nat.le_of_ble_eq_true rfl⟩, Sub.refl _, trivial⟩, ⟨Subs.refl _, trivial⟩, AO.le.refl _⟩, by simp; omega⟩
  · have hj' : j = o.Tags.length := by simp at h; omega
    refine FK.eq (b_eq ?_)
    unfold Ob.few; simp [hr, all_end hj' hej]; omega
def Ed.few (e : Ed) : Bool := decide (e.Id.length + e.Other.length + e.Node.length + e.Key.length ≤ 300) && decide (e.Val.length ≤ 600) && decide (e.Refs.length ≤ 40) && e.Object.few 40 && e.Refs.all okStr
def edsFew (m : Int) (l : List Ed) : Bool := decide ((l.length : Int) ≤ m) && l.all Ed.few
theorem refFewEds (l : List Ed) (m : Int) (h0 : BL l.length) (hw : ∀ e ∈ l, e.wf) : PSpec Tryz.prog 32 [eds l, .int .i64 m] (.bool (edsFew m l)) := by
  refine PSpec.by Tryz.func32 rfl Tryz.ntmps32 [] rfl fun A => ?_
  (conv => whnf)
  refine LK.mk (ι := {k : Nat // k ≤ l.length ∧ (l.take k).all Ed.few = true}) (fun k => [(0, .v (eds l)), (1, .v (.int .i64 m)), (5, .v (.int .i64 k.1))]) (fun _ => []) (fun _ => A) (fun k => l.length - k.1) ⟨0, by simp⟩ ?_ ?_
  · exact ⟨⟨Sub.refl _, Sub.refl _, Sub.refl _, trivial⟩, trivial, AO.le.refl _⟩
  rintro ⟨k, hk, he⟩
  (conv => whnf)
  repeat' ((first | (refine BK.dec (fun h => ?_) (fun h => ?_)) | (refine BK.ne (fun h => ?_) (fun h => ?_)) | (refine BK.eq (fun h => ?_) (fun h => ?_)) | (refine BK.mk (fun h => ?_) (fun h => ?_)) | (refine IK.in64 (by first | omega | (dsimp only; omega)) (by first | omega | (dsimp only; omega)) ?_) | (refine NK.mk (by kernel_rfl) ?_)) <;> (conv => whnf))
  · rename_i h0'
    have hk' : k < l.length := by simpa using h0'
    have hw' := hw _ (List.getElem_mem hk')
    have w1 := hw'.id
    have w2 := hw'.other
    have w3 := hw'.node
    have w4 := hw'.key
    refine RK.mk k _ rfl (map_get hk') ?_
    (conv => whnf)
    repeat' ((first | (refine BK.dec (fun h => ?_) (fun h => ?_)) | (refine BK.ne (fun h => ?_) (fun h => ?_)) | (refine BK.eq (fun h => ?_) (fun h => ?_)) | (refine BK.mk (fun h => ?_) (fun h => ?_)) | (refine IK.in64 (by first | omega | (dsimp only; omega)) (by first | omega | (dsimp only; omega)) ?_) | (refine NK.mk (by kernel_rfl) ?_) | (refine CK.bool ent61 (refFewOb l[k].Object 40 hw'.obj) (Subs.refl _) (fun h => ?_) (fun h => ?_))) <;> (conv => whnf))
    all_goals first
      | (refine FK.eq (b_eq ?_); unfold edsFew; rw [all_not hk' (by unfold Ed.few; simp; omega)]; simp; done)
      | (refine FK.eq (b_eq ?_); unfold edsFew; rw [all_not hk' (by unfold Ed.few; simp [*])]; simp; done)
      | skip
    have b1 : (l[k]).Refs.length ≤ 40 := by omega
    refine LK.mk (ι := {j : Nat // j ≤ (l[k]).Refs.length ∧ ((l[k]).Refs.take j).all okStr = true}) (fun j => [(0, .v (eds l)), (1, .v (.int .i64 m)), (5, .v (.int .i64 k)), (6, .lp 0 0), (7, .v (.int .i64 j.1))]) (fun _ => [(l[k]).c]) (fun _ => A) (fun j => (l[k]).Refs.length - j.1) ⟨0, by simp⟩ ?_ ?_
    · exact ⟨⟨Sub.refl _, Sub.refl _, Sub.refl _, ⟨rfl, rfl, Nat.le_of_ble_eq_true rfl⟩, Sub.refl _, trivial⟩, ⟨Subs.refl _, trivial⟩, AO.le.refl _⟩
    rintro ⟨j, hj, hej⟩
    (conv => whnf)
    (first | (refine BK.dec (fun h => ?_) (fun h => ?_)) | (refine BK.ne (fun h => ?_) (fun h => ?_)) | (refine BK.eq (fun h => ?_) (fun h => ?_)) | (refine BK.mk (fun h => ?_) (fun h => ?_)) | (refine IK.in64 (by first | omega | (dsimp only; omega)) (by first | omega | (dsimp only; omega)) ?_) | (refine NK.mk (by kernel_rfl) ?_)) <;> (conv => whnf)
    · have hj' : j < (l[k]).Refs.length := by simpa using h
      refine RK.mk j _ rfl (map_get hj') ?_
      (conv => whnf)
      (first | (refine BK.dec (fun h => ?_) (fun h => ?_)) | (refine BK.ne (fun h => ?_) (fun h => ?_)) | (refine BK.eq (fun h => ?_) (fun h => ?_)) | (refine BK.mk (fun h => ?_) (fun h => ?_)) | (refine IK.in64 (by first | omega | (dsimp only; omega)) (by first | omega | (dsimp only; omega)) ?_) | (refine NK.mk (by kernel_rfl) ?_)) <;> (conv => whnf)
      · refine FK.eq (b_eq ?_)
        have : (l[k]).Refs.all okStr = false := all_not hj' (by unfold okStr; simp; omega)
        unfold edsFew; rw [all_not hk' (by unfold Ed.few; simp [this])]; simp
      · repeat' ((first | (refine BK.dec (fun h => ?_) (fun h => ?_)) | (refine BK.ne (fun h => ?_) (fun h => ?_)) | (refine BK.eq (fun h => ?_) (fun h => ?_)) | (refine BK.mk (fun h => ?_) (fun h => ?_)) | (refine IK.in64 (by first | omega | (dsimp only; omega)) (by first | omega | (dsimp only; omega)) ?_) | (refine NK.mk (by kernel_rfl) ?_)) <;> (conv => whnf))
        exact ⟨⟨j + 1, hj', all_take_succ hj' hej (by unfold okStr; simp; omega)⟩, ⟨⟨Sub.refl _, Sub.refl _, Sub.refl _, ⟨rfl, rfl, Nat.le_of_ble_eq_true rfl⟩, Sub.refl _, trivial⟩, ⟨Subs.refl _, trivial⟩, AO.le.refl _⟩, by simp; omega⟩
    · have hj' : j = (l[k]).Refs.length := by simp at h; omega
      repeat' ((first | (refine BK.dec (fun h => ?_) (fun h => ?_)) | (refine BK.ne (fun h => ?_) (fun h => ?_)) | (refine BK.eq (fun h => ?_) (fun h => ?_)) | (refine BK.mk (fun h => ?_) (fun h => ?_)) | (refine IK.in64 (by first | omega | (dsimp only; omega)) (by first | omega | (dsimp only; omega)) ?_) | (refine NK.mk (by kernel_rfl) ?_)) <;> (conv => whnf))
      exact ⟨⟨k + 1, hk', all_take_succ hk' he (by unfold Ed.few; simp [all_end hj' hej, *]; omega)⟩, ⟨⟨Sub.refl _, Sub.refl _, Sub.refl _, trivial⟩, trivial, AO.le.refl _⟩, by simp; omega⟩
  · omega
  · refine FK.eq (b_eq ?_)
    unfold edsFew; simp [h]
  · have hk' : k = l.length := by rename_i h1; simp at h1; omega
    refine FK.eq (b_eq ?_)
    unfold edsFew; rw [all_end hk' he]; simp [h]
  · refine FK.eq (b_eq ?_)
    unfold edsFew; simp [h]
/-- The size of a record. -/
def Rc.few (r : Rc) : Bool := [r.Parents, r.Seal.Sig, r.Seal.Path, r.Private.Sources, r.Private.Seal.Sig, r.Private.Seal.Path].all okStrs && [[r.Branch, r.Target, r.From, r.Private.Name, r.Private.Reason]].all okStrs && decide (r.Private.Trace.length ≤ 210) && edsFew 10 r.Edits
def rcsFew (m : Int) (l : List Rc) : Bool := decide ((l.length : Int) ≤ m) && l.all Rc.few
theorem os_lss {ls : List (List Str)} {n : Nat} {rows : List (List AV)} (hn : n = ls.length) (hl : rows.length = ls.length) (k : ∀ i (h : i < rows.length) (h' : i < ls.length), Subs rows[i] [strs ls[i]]) : Sub (.os 1 none n rows) (lss ls) := by
  subst hn
  exact (Sub.os_rows (by simpa using hl) (fun i h h' => by simpa using k i h (by simpa using h'))).trans (Sub.os_sl (by simp))
theorem refFew (l : List Rc) (m : Int) (hw : LW0 l) : PSpec Tryz.prog 22 [rcs l, .int .i64 m] (.bool (rcsFew m l)) := by
  have h0 := hw.len
  refine PSpec.by Tryz.func22 rfl Tryz.ntmps22 [] rfl fun A => ?_
  (conv => whnf)
  refine LK.mk (ι := {k : Nat // k ≤ l.length ∧ (l.take k).all Rc.few = true}) (fun k => [(0, .v (rcs l)), (1, .v (.int .i64 m)), (5, .v (.int .i64 k.1))]) (fun _ => []) (fun _ => A) (fun k => l.length - k.1) ⟨0, by simp⟩ ?_ ?_
  · exact ⟨⟨Sub.refl _, Sub.refl _, Sub.refl _, trivial⟩, trivial, AO.le.refl _⟩
  rintro ⟨k, hk, he⟩
  (conv => whnf)
  repeat' ((first | (refine BK.dec (fun h => ?_) (fun h => ?_)) | (refine BK.ne (fun h => ?_) (fun h => ?_)) | (refine BK.eq (fun h => ?_) (fun h => ?_)) | (refine BK.mk (fun h => ?_) (fun h => ?_)) | (refine IK.in64 (by first | omega | (dsimp only; omega)) (by first | omega | (dsimp only; omega)) ?_) | (refine NK.mk (by kernel_rfl) ?_)) <;> (conv => whnf))
  · rename_i h0'
    have hk' : k < l.length := by simpa using h0'
    have hw' := hw.one _ (List.getElem_mem hk')
    have w1 : ∀ x ∈ [(l[k]).Parents, (l[k]).Seal.Sig, (l[k]).Seal.Path, (l[k]).Private.Sources, (l[k]).Private.Seal.Sig, (l[k]).Private.Seal.Path], SW x := by
      intro x hx; simp at hx; rcases hx with rfl | rfl | rfl | rfl | rfl | rfl
      · exact hw'.parents
      · exact hw'.se.sig
      · exact hw'.se.path
      · exact hw'.pv.sources
      · exact hw'.pv.se.sig
      · exact hw'.pv.se.path
    have w2 : ∀ x ∈ [[(l[k]).Branch, (l[k]).Target, (l[k]).From, (l[k]).Private.Name, (l[k]).Private.Reason]], SW x := by
      intro x hx; simp at hx; subst hx; refine ⟨by simp, ?_⟩
      intro x hx; simp at hx; rcases hx with rfl | rfl | rfl | rfl | rfl
      · exact hw'.branch
      · exact hw'.target
      · exact hw'.from_
      · exact hw'.pv.name
      · exact hw'.pv.reason
    refine RK.mk k _ rfl (map_get hk') ?_
    (conv => whnf)
    refine CK.bool ent31 (refLists _ (by simp) w1) (Subs.cons ?_ Subs.nil) (fun f1 => ?_) (fun h => ?_)
    · refine os_lss rfl rfl ?_
      rintro (_ | _ | _ | _ | _ | _ | i) h h' <;> first | exact Subs.refl _ | exact absurd h' (by simp)
    · (conv => whnf)
      refine CK.bool ent31 (refLists _ (by simp) w2) (Subs.cons ?_ Subs.nil) (fun f2 => ?_) (fun h => ?_)
      · refine os_lss rfl rfl ?_
        rintro (_ | i) h h' <;> first | exact Subs.cons (Sub.os_sl rfl) Subs.nil | exact absurd h' (by simp)
      · (conv => whnf)
        repeat' ((first | (refine BK.dec (fun h => ?_) (fun h => ?_)) | (refine BK.ne (fun h => ?_) (fun h => ?_)) | (refine BK.eq (fun h => ?_) (fun h => ?_)) | (refine BK.mk (fun h => ?_) (fun h => ?_)) | (refine IK.in64 (by first | omega | (dsimp only; omega)) (by first | omega | (dsimp only; omega)) ?_) | (refine NK.mk (by kernel_rfl) ?_) | (refine CK.bool ent32 (refFewEds (l[k]).Edits 10 hw'.edits hw'.edit) (Subs.refl _) (fun h => ?_) (fun h => ?_))) <;> (conv => whnf))
        · refine FK.eq (b_eq ?_)
          unfold rcsFew; rw [all_not hk' (by unfold Rc.few; simp; omega)]; simp
        · rename_i f3
          exact ⟨⟨k + 1, hk', all_take_succ hk' he (by unfold Rc.few; rw [f1, f2, h]; simp; omega)⟩, ⟨⟨Sub.refl _, Sub.refl _, Sub.refl _, trivial⟩, trivial, AO.le.refl _⟩, by simp; omega⟩
        · refine FK.eq (b_eq ?_)
          unfold rcsFew; rw [all_not hk' (by unfold Rc.few; rw [h]; simp)]; simp
      · (conv => whnf)
        refine FK.eq (b_eq ?_)
        unfold rcsFew; rw [all_not hk' (by unfold Rc.few; rw [h]; simp)]; simp
    · (conv => whnf)
      refine FK.eq (b_eq ?_)
      unfold rcsFew; rw [all_not hk' (by unfold Rc.few; rw [h]; simp)]; simp
  · omega
  · refine FK.eq (b_eq ?_)
    unfold rcsFew; simp [h]
  · have hk' : k = l.length := by rename_i h1; simp at h1; omega
    refine FK.eq (b_eq ?_)
    unfold rcsFew; rw [all_end hk' he]; simp [h]
  · refine FK.eq (b_eq ?_)
    unfold rcsFew; simp [h]
end Ab
end Go.Proofs.YtpmigkbcldffeaaGreatDoor

/- The law's helpers; flags of members. -/
namespace Go.Proofs.YtpmigkbcldffeaaGreatDoor
namespace Ab
set_option maxRecDepth 10000
def rcss (l : List (List Rc)) : AV := .sl 1 l.length (l.map fun x => [rcs x])
def fewAll (ls : List (List Rc)) : Bool := ls.all fun l => decide (l.length ≤ 16) && rcsFew 16 l
/-! ### Appended rows -/
theorem tok_none {A : AO} {sz e : Nat} : A.tok none sz e = A := rfl
theorem kill_none {A : AO} : A.kill none = A := rfl
/-- What was appended to may be forgotten. -/
theorem tok_le {A : AO} {ob : Option Nat} {sz e : Nat} (h : ∀ b, ob = some b → ¬ A.mut b) : (A.tok ob sz e).le A := by
  cases ob with
  | none => exact AO.le.refl _
  | some b =>
    refine ⟨fun p cs h => ⟨cs, h, Subs.refl _⟩, fun p x hx => ?_, fun _ _ h => h, fun _ _ h => h⟩
    show (if p = b then some (sz, e) else A.toks p) = some x
    have hb := h b rfl
    by_cases hp : p = b
    · subst hp; exact absurd (.inr (.inl (by rw [hx]; simp))) hb
    · rw [if_neg hp]; exact hx
/-- The next append, to the same row or a new one. -/
theorem tok_next {A : AO} {ob ob' : Option Nat} {sz e e' : Nat} : (((A.tok ob sz e).kill ob).tok ob' sz e').le (A.tok ob' sz e') ∨ True := .inr trivial
theorem tok_step {A : AO} {ob ob' : Option Nat} {sz e e' : Nat} (h : ∀ b, ob = some b → ¬ A.mut b) : (((A.tok ob sz e).kill ob).tok ob' sz e').le (A.tok ob' sz e') := by
  have h1 : ((A.tok ob sz e).kill ob).le A := by
    cases ob with
    | none => exact AO.le.refl _
    | some b =>
      refine ⟨fun p cs h => ⟨cs, h, Subs.refl _⟩, fun p x hx => ?_, fun _ _ h => h, fun _ _ h => h⟩
      show (if p = b then none else if p = b then some (sz, e) else A.toks p) = some x
      have hb := h b rfl
      by_cases hp : p = b
      · subst hp; exact absurd (.inr (.inl (by rw [hx]; simp))) hb
      · rw [if_neg hp, if_neg hp]; exact hx
  cases ob' with
  | none => exact h1
  | some b' =>
    refine ⟨h1.rows, fun p x hx => ?_, h1.maps, h1.tys⟩
    have hx' : (if p = b' then some (sz, e') else A.toks p) = some x := hx
    show (if p = b' then some (sz, e') else ((A.tok ob sz e).kill ob).toks p) = some x
    by_cases hp : p = b'
    · rw [if_pos hp] at hx' ⊢; exact hx'
    · rw [if_neg hp] at hx' ⊢; exact h1.toks p x hx'
theorem tok_fresh {A : AO} {ob ob' : Option Nat} {sz e : Nat} (h : ∀ b, ob = some b → ¬ A.mut b) (k : ob' = ob ∨ ∃ p, ob' = some p ∧ ¬ (A.tok ob sz e).mut p) : ∀ b, ob' = some b → ¬ A.mut b := by
  rintro b rfl
  rcases k with k | ⟨p, k, hp⟩
  · exact h b k.symm
  · injection k with k; subst k
    intro hm
    refine hp ?_
    rcases hm with hm | hm | hm
    · exact .inl (by cases ob <;> exact hm)
    · refine .inr (.inl ?_)
      cases ob with
      | none => exact hm
      | some q => show (if b = q then some (sz, e) else A.toks b) ≠ none; split <;> simp [hm]
    · exact .inr (.inr (by cases ob <;> exact hm))
/-- What an append leaves. -/
abbrev After (A : AO) (ob ob' : Option Nat) (sz n : Nat) (T : TypeId) (A' : AO) : Prop := (ob' = ob ∧ A' = (A.kill ob).tok ob' sz n) ∨ ∃ p, ob' = some p ∧ ¬ A.mut p ∧ A' = ((A.kill ob).tok ob' sz n).setTy p T
theorem After.or {A A' : AO} {ob ob' : Option Nat} {sz n : Nat} {T : TypeId} (h : After A ob ob' sz n T A') : ob' = ob ∨ ∃ p, ob' = some p ∧ ¬ A.mut p := by
  rcases h with ⟨h, _⟩ | ⟨p, h, k, _⟩
  · exact .inl h
  · exact .inr ⟨p, h, k⟩
theorem After.rows {A A' : AO} {ob ob' : Option Nat} {sz n : Nat} {T : TypeId} (h : After A ob ob' sz n T A') : A'.rows = A.rows := by
  rcases h with ⟨_, rfl⟩ | ⟨p, _, _, rfl⟩
  · cases ob <;> cases ob' <;> rfl
  · cases ob <;> cases ob' <;> rfl
/-- Of a row that was appended to before. -/
theorem After.le {A A' : AO} {ob ob' : Option Nat} {sz e n : Nat} {T : TypeId} (ho : ∀ b, ob = some b → ¬ A.mut b) (h : After (A.tok ob sz e) ob ob' sz n T A') : A'.le (A.tok ob' sz n) := by
  rcases h with ⟨_, rfl⟩ | ⟨p, h1, h2, rfl⟩
  · exact tok_step ho
  · have k := tok_step (ob' := ob') (e := e) (e' := n) (sz := sz) ho
    refine ⟨k.rows, k.toks, k.maps, fun q t hq => ?_⟩
    have hq1 : A.tys q = some t := by cases ob' <;> exact hq
    have hq2 : q ≠ p := by
      rintro rfl
      refine h2 (.inr (.inr (.inr ?_)))
      have : (A.tok ob sz e).tys q = some t := by cases ob <;> exact hq1
      rw [this]; simp
    show (if q = p then _ else _) = _
    rw [if_neg hq2]
    cases ob <;> cases ob' <;> exact hq1
theorem tok_at {A : AO} {ob : Option Nat} {sz e : Nat} : ∀ b, ob = some b → (A.tok ob sz e).toks b = some (sz, e) := by
  rintro b rfl; show (if b = b then some (sz, e) else _) = _; simp
theorem rev_step {l : List Rc} {k : Nat} (h : k < l.length) : ((l.drop (l.length - k)).reverse.map Rc.c) ++ [(l[l.length - 1 - k]'(by omega)).c] = (l.drop (l.length - (k + 1))).reverse.map Rc.c := by
  have e : l.drop (l.length - (k + 1)) = l[l.length - 1 - k]'(by omega) :: l.drop (l.length - k) := by
    rw [List.drop_eq_getElem_cons (by omega : l.length - (k + 1) < l.length)]
    congr 1
    · congr 1; omega
    · congr 1; omega
  rw [e]; simp
theorem os_start {sz : Nat} {r : List (List AV)} (h : r = []) : Sub (.os 0 none 0 []) (.os sz none 0 r) := by subst h; exact Sub.os_sz
theorem os_push {sz k : Nat} {ob : Option Nat} {rows new rows' : List (List AV)} {x : List AV} (hn : new = [x]) (h : rows ++ [x] = rows') : Sub (.os sz ob (k + new.length) (rows ++ new)) (.os sz ob (k + 1) rows') := by
  subst hn; subst h; exact Sub.refl _
theorem AK.one {A : AO} {sz0 sz bytes : Nat} {T : TypeId} {ob : Option Nat} {e : Nat} {rows new : List (List AV)} {K : Option Nat → AO → Prop} {x : List AV} (hn : new = [x]) (hx : x.length = sz) (h1 : rows.length = e) (h0 : rows = [] ∨ sz0 = sz)
    (h2 : ∀ b, ob = some b → A.toks b = some (sz, e)) (h4 : (e + 1) * (bytes + 1) ≤ 70368744177664)
    (h5 : ∀ ob' A', After A ob ob' sz (e + 1) T A' → K ob' A') : AK A sz0 sz bytes T ob e rows new K := by
  subst hn
  exact AK.mk h1 h0 h2 (by intro r hr; rw [List.mem_singleton.1 hr]; exact hx) h4 h5
end Ab
end Go.Proofs.YtpmigkbcldffeaaGreatDoor

/- Members who asked: privacy.asked and what stands on it. -/
namespace Go.Proofs.YtpmigkbcldffeaaGreatDoor
namespace Ab
set_option maxRecDepth 10000
def fl (f : Nat → Bool) : List AV := [.bool (f 0), .bool (f 1), .bool (f 2), .bool (f 3), .bool (f 4), .bool (f 5), .bool (f 6), .bool (f 7), .bool (f 8), .bool (f 9), .bool (f 10), .bool (f 11), .bool (f 12), .bool (f 13), .bool (f 14), .bool (f 15), .bool (f 16), .bool (f 17), .bool (f 18), .bool (f 19), .bool (f 20), .bool (f 21), .bool (f 22), .bool (f 23), .bool (f 24), .bool (f 25), .bool (f 26), .bool (f 27), .bool (f 28), .bool (f 29), .bool (f 30), .bool (f 31), .bool (f 32), .bool (f 33), .bool (f 34), .bool (f 35), .bool (f 36), .bool (f 37), .bool (f 38), .bool (f 39), .bool (f 40), .bool (f 41), .bool (f 42), .bool (f 43), .bool (f 44), .bool (f 45), .bool (f 46), .bool (f 47), .bool (f 48), .bool (f 49), .bool (f 50), .bool (f 51), .bool (f 52), .bool (f 53), .bool (f 54), .bool (f 55), .bool (f 56), .bool (f 57), .bool (f 58), .bool (f 59)]
/-- What is asked of record.Valid here. -/
structure VS (V : Rc → Bool) : Prop where
  ok : ∀ r : Rc, r.wf → r.Kind = 5 → r.Private = .zero → PSpec Tryz.prog 26 [.agg r.c] (.bool (V r))
  dom : ∀ r : Rc, V r = true → 0 ≤ r.Author ∧ r.Author < 60
def req (V : Rc → Bool) (r : Rc) : Bool := decide (r.Kind = 5) && V r.bare
def mem (V : Rc → Bool) (l : List Rc) (i : Nat) : Bool := l.any fun r => req V r && decide (r.Author = i)
theorem fl_len (f : Nat → Bool) : (fl f).length = 60 := rfl
theorem fl_eq (f : Nat → Bool) : fl f = (List.range 60).map fun i => .bool (f i) := rfl
theorem fl_at (f : Nat → Bool) (k : Nat) (h : k < 60) : nth (fl f) k = some (.bool (f k)) := by
  rw [nth_eq, fl_eq]; simp [h]
theorem fl_set (f : Nat → Bool) (k : Nat) (h : k < 60) (b : Bool) : (fl f).set k (.bool b) = fl (fun i => if i = k then b else f i) := by
  rw [fl_eq, fl_eq]
  apply List.ext_getElem
  · simp
  · intro i h1 h2
    rw [List.getElem_set]
    by_cases e : k = i
    · subst e; simp
    · have : ¬ i = k := fun x => e x.symm
      simp [e, this]
theorem st_e1 {f : Nat → Bool} {off : Nat} : (Nat.beq off 0 && Nat.beq ty4.size (fl f).length) = false := by cases Nat.beq off 0 <;> rfl
theorem st_e2 {f : Nat → Bool} {k : Nat} (h : k < 60) : Nat.ble (0 + k * ty4.size + ty4.size) (fl f).length = true := Nat.ble_eq_true_of_le (by rw [fl_len]; show 0 + k * 1 + 1 ≤ 60; omega)
theorem st_e3 {f : Nat → Bool} {k : Nat} (h : k < 60) {b : Bool} {f' : Nat → Bool} (e : ∀ i, f' i = if i = k then b else f i) : Subs (splice (fl f) (0 + k * ty4.size) [.bool b]) (fl f') := by
  have : splice (fl f) (0 + k * ty4.size) [.bool b] = fl f' := by
    show (fl f).set (0 + k * 1) (.bool b) = _
    rw [Nat.zero_add, Nat.mul_one, fl_set f k h, funext e]
  rw [this]; exact Subs.refl _
theorem ld_e {f : Nat → Bool} {k : Nat} (h : k < 60) : nth (fl f) (0 + k * ty4.size) = some (.bool (f k)) := by
  show nth (fl f) (0 + k * 1) = _
  rw [Nat.zero_add, Nat.mul_one, fl_at f k h]
theorem mem_step {V : Rc → Bool} {l : List Rc} {k : Nat} (h : k < l.length) (i : Nat) : mem V (l.take (k + 1)) i = (mem V (l.take k) i || (req V l[k] && decide ((l[k]).Author = i))) := by
  unfold mem; rw [List.take_succ_eq_append_getElem h, List.any_append]; simp
theorem Pv.zero_wf : Pv.zero.wf := ⟨by simp [Pv.zero], by simp [Pv.zero], ⟨by simp [Pv.zero], by simp [Pv.zero]⟩, by simp [Pv.zero], ⟨⟨by simp [Pv.zero, Se.zero], by simp [Pv.zero, Se.zero]⟩, ⟨by simp [Pv.zero, Se.zero], by simp [Pv.zero, Se.zero]⟩⟩⟩
theorem Rc.bare_wf {r : Rc} (h : r.wf) : r.bare.wf := ⟨⟨h.branch, h.parents, h.edits, h.edit, h.target, h.from_, h.se, Pv.zero_wf⟩, h.pars⟩
end Ab
end Go.Proofs.YtpmigkbcldffeaaGreatDoor

/- privacy.Forgotten, Clean, Public. -/
namespace Go.Proofs.YtpmigkbcldffeaaGreatDoor
namespace Ab
set_option maxRecDepth 10000
def hasP (f : Nat → Bool) (n : Int) : Bool := decide (0 ≤ n) && decide (n < 60) && f n.toNat
theorem setTy_ne {A : AO} {p : Nat} {e : TypeId} (h : ¬ A.mut p) (q : Nat) (t : TypeId) (hq : A.tys q = some t) : (if q = p then some e else A.tys q) = some t := by
  have : q ≠ p := by rintro rfl; exact h (.inr (.inr (.inr (by rw [hq]; simp))))
  rw [if_neg this]; exact hq
theorem setRow_le {A : AO} {p : Nat} {e : TypeId} {cs : List AV} (h : ¬ A.mut p) : ((A.setTy p e).setRow p cs).le A := by
  refine ⟨fun q ds hq => ?_, fun q x hx => hx, fun q x hx => hx, fun q t hq => setTy_ne h q t hq⟩
  have : q ≠ p := by rintro rfl; exact h (.inl (by rw [hq]; simp))
  exact ⟨ds, by show (if q = p then _ else _) = _; rw [if_neg this]; exact hq, Subs.refl _⟩
theorem AO.le.trans {A B C : AO} (h : A.le B) (k : B.le C) : A.le C := by
  refine ⟨fun p cs hp => ?_, fun p x hx => h.toks p x (k.toks p x hx), fun p x hx => h.maps p x (k.maps p x hx), fun p x hx => h.tys p x (k.tys p x hx)⟩
  obtain ⟨c1, h1, s1⟩ := k.rows p cs hp
  obtain ⟨c2, h2, s2⟩ := h.rows p c1 h1
  exact ⟨c2, h2, s2.1.trans s1.1, fun j a b => (s2.2 j a (by rw [← s2.1]; exact a)).trans (s1.2 j _ b)⟩
theorem setRow_at {A : AO} {p : Nat} {cs : List AV} : (A.setRow p cs).rows p = some cs := by show (if p = p then _ else _) = _; simp
theorem setRow2_le {A : AO} {p : Nat} {e : TypeId} {cs ds : List AV} (h : ¬ A.mut p) : (((A.setTy p e).setRow p cs).setRow p ds).le A := by
  refine ⟨fun q es hq => ?_, fun q x hx => hx, fun q x hx => hx, fun q t hq => setTy_ne h q t hq⟩
  have : q ≠ p := by rintro rfl; exact h (.inl (by rw [hq]; simp))
  exact ⟨es, by show (if q = p then _ else if q = p then _ else _) = _; rw [if_neg this, if_neg this]; exact hq, Subs.refl _⟩
/-- One record, cleaned. -/
def wipe (f : Nat → Bool) (r : Rc) : Rc := if hasP f r.Author then r.bare else r
theorem tok_rows {A : AO} {ob : Option Nat} {sz e : Nat} : (A.tok ob sz e).rows = A.rows := by cases ob <;> rfl
theorem map_step {l : List Rc} {F : Rc → Rc} {k : Nat} (h : k < l.length) : ((l.take k).map F).map Rc.c ++ [(F l[k]).c] = ((l.take (k + 1)).map F).map Rc.c := by
  rw [List.take_succ_eq_append_getElem h, List.map_append, List.map_append]; rfl
/-- The members of flags, in order, from the first k. -/
def listed (f : Nat → Bool) (k : Nat) : List Int := ((List.range k).filter f).map fun (i : Nat) => (i : Int)
theorem listed_succ (f : Nat → Bool) (k : Nat) : listed f (k + 1) = listed f k ++ (if f k then [(k : Int)] else []) := by
  unfold listed; rw [List.range_succ, List.filter_append, List.map_append]; cases h : f k <;> simp [h]
theorem listed_len (f : Nat → Bool) (k : Nat) : (listed f k).length ≤ k := by
  unfold listed; rw [List.length_map]; exact Nat.le_trans (List.length_filter_le _ _) (by simp)
theorem push_int {l : List Int} {n : Int} : (l.map fun n => [AV.int .i64 n]) ++ [[AV.int .i64 n]] = ((l ++ [n]).map fun n => [AV.int .i64 n]) := by simp
end Ab
end Go.Proofs.YtpmigkbcldffeaaGreatDoor

/- privacy.Public. -/
namespace Go.Proofs.YtpmigkbcldffeaaGreatDoor
namespace Ab
set_option maxRecDepth 10000
/-- Two records that are the same for Public. -/
def pubOne (f : Nat → Bool) (x y : Rc) : Bool := x.pubs y && (hasP f x.Author || decide (x.Private = y.Private))
def eqBy (E : Rc → Rc → Bool) (a b : List Rc) : Bool := decide (a.length = b.length) && (a.zip b).all fun p => E p.1 p.2
/-- The same flags. -/
def eqF (f g : Nat → Bool) : Nat → Nat → Bool
  | 0, _ => true
  | n + 1, k => (f k == g k) && eqF f g n (k + 1)
theorem eqF_iff (f g : Nat → Bool) : ∀ n k, eqF f g n k = true ↔ ∀ i, k ≤ i → i < k + n → f i = g i
  | 0, k => by simp [eqF]; intro i h1 h2; omega
  | n + 1, k => by
    rw [eqF, Bool.and_eq_true, eqF_iff f g n (k + 1), beq_iff_eq]
    constructor
    · rintro ⟨h1, h2⟩ i h3 h4
      by_cases e : i = k
      · subst e; exact h1
      · exact h2 i (by omega) (by omega)
    · intro h
      exact ⟨h k (by omega) (by omega), fun i h1 h2 => h i (by omega) (by omega)⟩
def pubAll (V : Rc → Bool) (a b : List Rc) : Bool := eqF (mem V a) (mem V b) 60 0 && eqBy (pubOne (mem V a)) a b
end Ab
end Go.Proofs.YtpmigkbcldffeaaGreatDoor

/- Library functions, by the shelf's contracts. -/
namespace Go.Proofs.YtpmigkbcldffeaaGreatDoor
namespace Ab
open Go.RowKit Go.Shelf Go.Lib
set_option maxRecDepth 10000
theorem PSpec.lib {f : FuncId} {args : List AV} {v : AV} (h : ∀ A g w (Vs : List Value), Inv A g w → CstOk A w → VL g args Vs → Calls Tryz.prog f Vs.toArray w fun e w' => ∃ V, e = .returned V ∧ VR g v V ∧ Below w.heap.size w w') : PSpec Tryz.prog f args v := by
  intro A g w Vs hI hC hV
  refine (h A g w Vs hI hC hV).mono ?_
  rintro e w' ⟨V, rfl, hr, hb⟩
  refine ⟨v, A, g, V, rfl, ⟨rfl, rfl⟩, hr, hI.keep (.refl g) (fun b o v hv => ?_) (fun b hm => ⟨hb.block b (hI.mut_lt hm), fun _ h => h⟩) (fun b n hn => Nat.lt_of_lt_of_le (hI.cps b n hn) hb.size),
    ⟨.refl g, hb.os, hb.tape, hb.output, hb.size, fun b hb' _ => hb.block b hb', fun b hm => .inl hm, fun _ _ _ _ => rfl⟩⟩
  have h0 := hI.sealed b o v hv
  simp only [World.cell?] at h0 ⊢
  rw [hb.block b (hI.seal_lt hv)]; exact h0
theorem vr_str {g : Gh} {s : Str} {V : Value} (h : VR g (.str s) V) : V = .string ⟨s.toArray⟩ := by
  cases h with
  | str _ b hb => subst hb; congr 1
theorem vr_int {g : Gh} {k : IntKind} {n : Int} {V : Value} (h : VR g (.int k n) V) : V = .int k n := by cases h; rfl
theorem str_vr {g : Gh} (s : Str) : VR g (.str s) (.string ⟨s.toArray⟩) := .str _ _ (by simp)
theorem vl2 {g : Gh} {a b : AV} {Vs : List Value} (h : VL g [a, b] Vs) : ∃ V W, Vs = [V, W] ∧ VR g a V ∧ VR g b W := by
  obtain ⟨V, L, rfl, h1, h2⟩ := h.inv_cons
  obtain ⟨W, L, rfl, h3, h4⟩ := h2.inv_cons
  rw [h4.inv_nil]
  exact ⟨V, W, rfl, h1, h3⟩
theorem vl1 {g : Gh} {a : AV} {Vs : List Value} (h : VL g [a] Vs) : ∃ V, Vs = [V] ∧ VR g a V := by
  obtain ⟨V, L, rfl, h1, h2⟩ := h.inv_cons
  rw [h2.inv_nil]
  exact ⟨V, rfl, h1⟩
def hexB : Str := [48, 49, 50, 51, 52, 53, 54, 55, 56, 57, 97, 98, 99, 100, 101, 102]
theorem trim_ok (s : Str) (hs : s.length ≤ 9223372036854775807) : PSpec Tryz.prog 80 [.str s, .str hexB] (.str (Lib.trimS s hexB)) := by
  refine .lib fun A g w Vs hI hC hV => ?_
  obtain ⟨V, W, rfl, h1, h2⟩ := vl2 hV
  rw [vr_str h1, vr_str h2]
  have h := Any.strings_Trim_laid Tryz.lays160 (by kernel_rfl) ⟨s.toArray⟩ ⟨hexB.toArray⟩ w (by show s.toArray.size ≤ _; simpa using hs) (by decide) (ascii_of_all (by decide))
  refine h.mono ?_
  rintro e w' ⟨rfl, hb⟩
  exact ⟨_, rfl, by simpa using str_vr (g := g) (Lib.trimS s hexB), hb⟩
theorem index_ok (s : Str) (c : Int) : PSpec Tryz.prog 95 [.str s, .int .u8 c] (.int .i64 (Lib.indexByte s (Nat.toUInt8 c.toNat))) := by
  refine .lib fun A g w Vs hI hC hV => ?_
  obtain ⟨V, W, rfl, h1, h2⟩ := vl2 hV
  rw [vr_str h1, vr_int h2]
  refine (Tryz.strings_IndexByte ⟨s.toArray⟩ c w).mono ?_
  rintro e w' ⟨rfl, rfl⟩
  exact ⟨_, rfl, by simpa using VR.int (g := g) .i64 (Lib.indexByte s (Nat.toUInt8 c.toNat)), Below.refl _ _⟩
theorem itoa_ok (n : Int) (h1 : -9223372036854775808 ≤ n) (h2 : n ≤ 9223372036854775807) : PSpec Tryz.prog 57 [.int .i64 n] (.str (Lib.itoa n)) := by
  refine .lib fun A g w Vs hI hC hV => ?_
  obtain ⟨V, rfl, h3⟩ := vl1 hV
  rw [vr_int h3]
  refine (Tryz.strconv_Itoa n h1 h2 w hC.tab).mono ?_
  rintro e w' ⟨rfl, k, os, rfl⟩
  exact ⟨_, rfl, str_vr _, Lib.below_grow _ w (Nat.le_refl _) k os⟩
theorem join_ok (l : List Str) (sep : Str) (h0 : l.length ≤ 140737488355328) (h1 : (Lib.join l sep).length ≤ 140737488355328) : PSpec Tryz.prog 122 [strs l, .str sep] (.str (Lib.join l sep)) := by
  refine .lib fun A g w Vs hI hC hV => ?_
  obtain ⟨V, W, rfl, h2, h3⟩ := vl2 hV
  rw [vr_str h3]
  obtain ⟨a, c, rfl, hl, hc, hr⟩ := h2.inv_sl
  by_cases hn : 0 < l.length
  · obtain ⟨b, o, rfl, hq⟩ := hr hn
    have key : ∀ (j : Nat) (x : ByteArray), (l.map fun s => (⟨s.toArray⟩ : ByteArray))[j]? = some x → w.cell? ⟨b, o + j, none⟩ = some (.string x) ∧ b < w.heap.size := fun j x hx => by
      rw [List.getElem?_map] at hx
      cases hj : l[j]? with
      | none => rw [hj] at hx; cases hx
      | some s =>
        rw [hj] at hx
        injection hx with hx
        obtain ⟨hjl, hs⟩ := List.getElem?_eq_some_iff.1 hj
        obtain ⟨L, k1, k2, k3⟩ := hq j (by simpa using hjl)
        simp only [List.getElem_map] at k1
        obtain ⟨X, rfl, k4⟩ := vl1 k1.toVL
        have hX := vr_str k4
        have hS := k3 0 X rfl
        have hcell := hI.sealed _ _ _ hS
        subst hx
        rw [← hs, ← hX]
        exact ⟨by simpa using hcell, hI.seal_lt hS⟩
    have hx0 : (l.map fun s => (⟨s.toArray⟩ : ByteArray))[0]? = some ⟨l[0].toArray⟩ := by simp [hn]
    have h := Tryz.strings_Join b o c (l.map fun s => ⟨s.toArray⟩) ⟨sep.toArray⟩ w (fun j x hx => (key j x hx).1) (key 0 _ hx0).2 (by simpa using h0) (by simpa using hc) (by simpa [Function.comp_def] using h1)
    simp only [List.length_map, List.map_map, Function.comp_def, List.toList_toArray, List.map_id'] at h
    refine h.mono ?_
    rintro e w' ⟨rfl, hb⟩
    exact ⟨_, rfl, str_vr _, hb⟩
  · have : l = [] := List.eq_nil_of_length_eq_zero (by omega)
    subst this
    refine (Tryz.strings_Join_none a c ⟨sep.toArray⟩ w).mono ?_
    rintro e w' ⟨rfl, rfl⟩
    exact ⟨_, rfl, by simpa [Lib.join_nil] using str_vr (g := g) [], Below.refl _ _⟩
end Ab
end Go.Proofs.YtpmigkbcldffeaaGreatDoor

/- lexer.classes, lexer.Name. -/
namespace Go.Proofs.YtpmigkbcldffeaaGreatDoor
namespace Ab
open Go.RowKit Go.Shelf Go.Lib
set_option maxRecDepth 10000
/-- A row by a function. -/
@[irreducible] def rowF (n : Nat) (f : Nat → AV) : List AV := (List.range n).map f
theorem rowF_len (n : Nat) (f : Nat → AV) : (rowF n f).length = n := by unfold rowF; simp
theorem rowF_nth {n : Nat} {f : Nat → AV} {k : Nat} (h : k < n) : nth (rowF n f) k = some (f k) := by rw [nth_eq]; unfold rowF; simp [h]
theorem rowF_set {n : Nat} {f : Nat → AV} {k : Nat} (h : k < n) (x : AV) : (rowF n f).set k x = rowF n (fun i => if i = k then x else f i) := by
  unfold rowF
  apply List.ext_getElem
  · simp
  · intro i h1 h2
    rw [List.getElem_set]
    by_cases e : k = i
    · subst e; simp
    · have : ¬ i = k := fun x => e x.symm
      simp [e, this]
theorem rowF_congr {n : Nat} {f f' : Nat → AV} (h : ∀ i, i < n → f i = f' i) : rowF n f = rowF n f' := by
  unfold rowF; exact List.map_congr_left (fun i hi => h i (List.mem_range.1 hi))
theorem st_r1 {n : Nat} {f : Nat → AV} {off : Nat} (h : 1 < n) : (Nat.beq off 0 && Nat.beq ty5.size (rowF n f).length) = false := by
  rw [rowF_len]
  have : Nat.beq ty5.size n = false := by
    cases hb : Nat.beq ty5.size n with
    | false => rfl
    | true => have : 1 = n := Nat.eq_of_beq_eq_true hb; omega
  rw [this, Bool.and_false]
theorem st_r2 {n : Nat} {f : Nat → AV} {k : Nat} (h : k < n) : Nat.ble (0 + k * ty5.size + ty5.size) (rowF n f).length = true := Nat.ble_eq_true_of_le (by rw [rowF_len]; show 0 + k * 1 + 1 ≤ n; omega)
theorem st_r3 {n : Nat} {f : Nat → AV} {k : Nat} (h : k < n) {x : AV} {f' : Nat → AV} (e : ∀ i, i < n → f' i = if i = k then x else f i) : splice (rowF n f) (0 + k * ty5.size) [x] = rowF n f' := by
  show (rowF n f).set (0 + k * 1) x = _
  rw [Nat.zero_add, Nat.mul_one, rowF_set h]
  exact rowF_congr (fun i hi => (e i hi).symm)
theorem ld_r {n : Nat} {f : Nat → AV} {k : Nat} (h : k < n) : nth (rowF n f) (0 + k * ty5.size) = some (f k) := by
  show nth (rowF n f) (0 + k * 1) = _
  rw [Nat.zero_add, Nat.mul_one, rowF_nth h]
theorem Subs.eq {a b : List AV} (h : a = b) : Subs a b := h ▸ Subs.refl _
def symB : Str := [59, 44, 46, 58, 40, 41, 123, 125, 91, 93, 61, 60, 62, 47, 45]
def clsF (k : Nat) : Int :=
  if (97 ≤ k ∧ k ≤ 122) ∨ (65 ≤ k ∧ k ≤ 90) then 3 else if 48 ≤ k ∧ k ≤ 57 then 4
  else if 0 ≤ Lib.indexByte [32, 9, 10] (Nat.toUInt8 k) then 1 else if 0 ≤ Lib.indexByte symB (Nat.toUInt8 k) then 6 else 0
def cls (k : Nat) : Int := if k = 34 then 7 else if k = 95 then 5 else if k = 35 then 2 else clsF k
def clsR (k : Nat) : List AV := rowF 256 fun i => .int .u8 (if i < k then clsF i else 0)
def clsT : List AV := rowF 256 fun i => .int .u8 (cls i)
theorem wrap_u8 {n : Int} (h1 : 0 ≤ n) (h2 : n < 256) : IntKind.u8.wrap n = n :=
  IntWalk.u8_in n ⟨h1, by omega⟩
theorem cls_step {k : Nat} {c : Int} (hc : clsF k = c) : ∀ i, i < 256 → AV.int .u8 (if i < k + 1 then clsF i else 0) = if i = (k : Int).toNat then AV.int .u8 c else AV.int .u8 (if i < k then clsF i else 0) := by
  intro i _
  by_cases e : i = k
  · subst e; simp [hc]
  · have e1 : (i < k + 1) = (i < k) := by simp; omega
    have e2 : ¬ i = (k : Int).toNat := by omega
    simp only [e1, e2, if_false]
theorem cls_same {k : Nat} (hc : clsF k = 0) : ∀ i, i < 256 → AV.int .u8 (if i < k + 1 then clsF i else 0) = AV.int .u8 (if i < k then clsF i else 0) := by
  intro i hi
  rw [cls_step hc i hi]
  by_cases e : i = (k : Int).toNat
  · have : ¬ i < k := by omega
    simp [e]
  · rw [if_neg e]
theorem clsT_len : clsT.length = 256 := rowF_len _ _
theorem cls_all (hk : 256 ≤ 256) : splice (splice (splice (rowF 256 fun i => .int .u8 (if i < (⟨256, hk⟩ : {k : Nat // k ≤ 256}).val then clsF i else 0)) (0 + Int.toNat 35 * ty5.size) (constAV (Value.int .u8 2)).cells) (0 + Int.toNat 95 * ty5.size) (constAV (Value.int .u8 5)).cells) (0 + Int.toNat 34 * ty5.size) (constAV (Value.int .u8 7)).cells = clsT := by
  show (((rowF 256 fun i => .int .u8 (if i < 256 then clsF i else 0)).set 35 (.int .u8 2)).set 95 (.int .u8 5)).set 34 (.int .u8 7) = clsT
  rw [rowF_set (by decide), rowF_set (by decide), rowF_set (by decide)]
  unfold clsT
  refine rowF_congr fun i hi => ?_
  unfold cls
  by_cases h1 : i = 34
  · simp [h1]
  by_cases h2 : i = 95
  · simp [h2]
  by_cases h3 : i = 35
  · simp [h3]
  simp [h1, h2, h3, hi]
theorem classes_ok : PSpec Tryz.prog 77 [] (.agg clsT) := by
  refine PSpec.by Tryz.func77 rfl Tryz.ntmps77 [] rfl fun A => ?_
  (conv => whnf)
  refine LK.mk (ι := {k : Nat // k ≤ 256}) (fun k => [(0, .lp 0 0), (1, .lp 1 0), (4, .v (.int .i64 k.1))]) (fun k => [rowF 256 (fun _ => .int .u8 0), rowF 256 fun i => .int .u8 (if i < k.1 then clsF i else 0)]) (fun _ => A) (fun k => 256 - k.1) ⟨0, by simp⟩ ?_ ?_
  · refine ⟨⟨⟨rfl, rfl, Nat.le_of_ble_eq_true rfl⟩, ⟨rfl, rfl, Nat.le_of_ble_eq_true rfl⟩, Sub.refl _, trivial⟩, ⟨Subs.eq ?_, Subs.eq ?_, trivial⟩, AO.le.refl _⟩
    · unfold rowF; kernel_rfl
    · unfold rowF; simp only [Nat.not_lt_zero, if_false]; kernel_rfl
  rintro ⟨k, hk⟩
  have done : ∀ {c : Int} {tm : TM} {row : List AV}, look tm 0 = some (.lp 0 0) → look tm 1 = some (.lp 1 0) → look tm 4 = some (.v (.int .i64 ((k : Int) + 1))) → (hk' : k < 256) → row = (rowF 256 fun i => .int .u8 (if i < k + 1 then clsF i else 0)) →
      ∃ j : {k : Nat // k ≤ 256}, Le tm [rowF 256 (fun _ => .int .u8 0), row] A [(0, .lp 0 0), (1, .lp 1 0), (4, .v (.int .i64 j.1))] [rowF 256 (fun _ => .int .u8 0), rowF 256 fun i => .int .u8 (if i < j.1 then clsF i else 0)] A ∧ 256 - j.1 < 256 - k := by
    intro c tm row h0 h1 h4 hk' hr
    refine ⟨⟨k + 1, hk'⟩, ⟨⟨?_, ?_, ?_, trivial⟩, ⟨Subs.refl _, Subs.eq hr, trivial⟩, AO.le.refl _⟩, by simp; omega⟩
    · rw [h0]; exact ⟨rfl, rfl, Nat.le_of_ble_eq_true rfl⟩
    · rw [h1]; exact ⟨rfl, rfl, Nat.le_of_ble_eq_true rfl⟩
    · rw [h4]; exact Sub.refl _
  (conv => whnf)
  refine BK.dec (fun h => ?_) (fun h => ?_) <;> (conv => whnf)
  · have hk' : k < 256 := by have : (k : Int) < 256 := h; omega
    have hk2 : (k : Int).toNat < 256 := by omega
    have hn : 0 ≤ (k : Int) ∧ (k : Int) < 256 := by omega
    have un : (Nat.toUInt8 (k : Int).toNat) = Nat.toUInt8 k := by simp
    refine IK.is (wrap_u8 (n := (k : Int)) (by omega) (by omega)) ?_
    (conv => whnf)
    repeat' ((first | (refine BK.dec (fun h => ?_) (fun h => ?_)) | (refine CK.pure ent95 (index_ok [32, 9, 10] (k : Int)) (Subs.refl _) ?_) | (refine CK.pure ent95 (index_ok symB (k : Int)) (Subs.refl _) ?_) | (refine NK.mk hn ?_; (conv => whnf); rw [st_r1 (by decide)]; (conv => whnf); rw [st_r2 hk2]) | (refine IK.in64 (by omega) (by omega) ?_)) <;> (conv => whnf))
    all_goals rw [un] at *
    all_goals first
      | (refine done (c := 0) rfl rfl rfl hk' ?_; exact st_r3 hk2 (cls_step (by unfold clsF; repeat' split; all_goals first | rfl | omega)))
      | (refine done (c := 0) rfl rfl rfl hk' ?_; exact rowF_congr (fun i hi => (cls_same (k := k) (by unfold clsF; repeat' split; all_goals first | rfl | omega) i hi).symm))
  · have hk' : k = 256 := by have : ¬ (k : Int) < 256 := h; omega
    subst hk'
    refine NK.mk (by omega) ?_
    (conv => whnf)
    rw [st_r2 (by decide)]
    (conv => whnf)
    refine NK.mk (by omega) ?_
    (conv => whnf)
    rw [splice_length, st_r2 (by decide)]
    (conv => whnf)
    refine NK.mk (by omega) ?_
    (conv => whnf)
    rw [splice_length, splice_length, st_r2 (by decide)]
    (conv => whnf)
    rw [cls_all, clsT_len]
    (conv => whnf)
    rw [show (AV.agg clsT).cells.length = 256 from clsT_len]
    (conv => whnf)
    rw [rowF_len]
    (conv => whnf)
    rw [show (AV.agg clsT).cells.length = 256 from clsT_len]
    (conv => whnf)
    exact FK.eq rfl
def okAt (s : Str) (j : Nat) : Bool :=
  let c := cls (s.getD j 0).toNat
  decide (c = 3) || (decide (j ≠ 0) && (decide (c = 4) || decide (c = 5)))
/-- Is it a name? -/
def nameP (s : Str) : Bool := (List.range s.length).all (okAt s) && (decide (s ≠ []) && decide (s.length ≤ 24))
theorem range_step {p : Nat → Bool} {k : Nat} (h : (List.range k).all p = true) (hp : p k = true) : (List.range (k + 1)).all p = true := by
  rw [List.range_succ, List.all_append, h]; simp [hp]
theorem range_no {p : Nat → Bool} {k n : Nat} (hk : k < n) (hp : p k = false) : (List.range n).all p = false := by
  rw [List.all_eq_false]; exact ⟨k, List.mem_range.2 hk, by simp [hp]⟩
theorem name_ok (s : Str) (hs : s.length ≤ 140737488355328) : PSpec Tryz.prog 48 [.str s] (.bool (nameP s)) := by
  refine PSpec.by Tryz.func48 rfl Tryz.ntmps48 [] rfl fun A => ?_
  (conv => whnf)
  refine CK.pure ent77 classes_ok (Subs.refl _) ?_
  (conv => whnf)
  rw [show (AV.agg clsT).cells.length = 256 from clsT_len]
  (conv => whnf)
  refine LK.mk (ι := {k : Nat // k ≤ s.length ∧ (List.range k).all (okAt s) = true}) (fun k => [(0, .v (.str s)), (3, .lp 0 0), (8, .v (.int .i64 s.length)), (9, .v (.int .i64 k.1))]) (fun _ => [clsT]) (fun _ => A) (fun k => s.length - k.1) ⟨0, by simp⟩ ?_ ?_
  · exact ⟨⟨Sub.refl _, ⟨rfl, rfl, Nat.le_of_ble_eq_true rfl⟩, Sub.refl _, Sub.refl _, trivial⟩, ⟨Subs.refl _, trivial⟩, AO.le.refl _⟩
  rintro ⟨k, hk, he⟩
  (conv => whnf)
  refine BK.dec (fun h => ?_) (fun h => ?_) <;> (conv => whnf)
  · have hk' : k < s.length := by have : (k : Int) < s.length := h; omega
    refine SK.mk k s[k] rfl (by simp [hk']) ?_
    (conv => whnf)
    have hb := s[k].toNat_lt
    have hb2 : ((s[k].toNat : Nat) : Int).toNat < 256 := by simpa using hb
    refine NK.mk ⟨by simp, by omega⟩ ?_
    (conv => whnf)
    rw [show nth clsT (0 + ((s[k].toNat : Nat) : Int).toNat * ty5.size) = some (.int .u8 (cls s[k].toNat)) from by unfold clsT; rw [ld_r hb2]; simp]
    (conv => whnf)
    have hc : cls (s.getD k 0).toNat = cls s[k].toNat := by simp [hk']
    repeat' ((first | (refine BK.dec (fun h => ?_) (fun h => ?_)) | (refine BK.ne (fun h => ?_) (fun h => ?_)) | (refine BK.eq (fun h => ?_) (fun h => ?_)) | (refine BK.mk (fun h => ?_) (fun h => ?_)) | (refine IK.in64 (by first | omega | (dsimp only; omega)) (by first | omega | (dsimp only; omega)) ?_) | (refine NK.mk (by kernel_rfl) ?_)) <;> (conv => whnf))
    all_goals dsimp only at *
    all_goals first
      | (refine FK.eq (b_eq ?_); unfold nameP; rw [range_no hk' (by unfold okAt; simp only [hc]; simp; omega)]; rfl)
      | exact ⟨⟨k + 1, hk', range_step he (by unfold okAt; simp only [hc]; simp; omega)⟩, ⟨⟨Sub.refl _, ⟨rfl, rfl, Nat.le_of_ble_eq_true rfl⟩, Sub.refl _, Sub.refl _, trivial⟩, ⟨Subs.refl _, trivial⟩, AO.le.refl _⟩, by simp; omega⟩
  · have hk' : k = s.length := by have : ¬ (k : Int) < s.length := h; omega
    subst hk'
    repeat' ((first | (refine BK.dec (fun h => ?_) (fun h => ?_)) | (refine BK.ne (fun h => ?_) (fun h => ?_)) | (refine BK.eq (fun h => ?_) (fun h => ?_)) | (refine BK.mk (fun h => ?_) (fun h => ?_)) | (refine IK.in64 (by first | omega | (dsimp only; omega)) (by first | omega | (dsimp only; omega)) ?_) | (refine NK.mk (by kernel_rfl) ?_)) <;> (conv => whnf))
    all_goals (refine FK.eq (b_eq ?_); unfold nameP; rw [he]; simp_all; try omega)
end Ab
end Go.Proofs.YtpmigkbcldffeaaGreatDoor

/- Searching with a function; digests, short strings, seals. -/
namespace Go.Proofs.YtpmigkbcldffeaaGreatDoor
namespace Ab
open Go.RowKit Go.Shelf Go.Lib
set_option maxRecDepth 10000
theorem any_step {p : Nat → Bool} {k : Nat} (h : (List.range k).any p = false) (hp : p k = false) : (List.range (k + 1)).any p = false := by
  rw [List.range_succ, List.any_append, h]; simp [hp]
theorem any_yes {p : Nat → Bool} {k n : Nat} (hk : k < n) (hp : p k = true) : (List.range n).any p = true := by
  rw [List.any_eq_true]; exact ⟨k, List.mem_range.2 hk, hp⟩
theorem any_range {α : Type} (l : List α) (d : α) (p : α → Bool) : (List.range l.length).any (fun k => p (l.getD k d)) = l.any p := by
  rw [Bool.eq_iff_iff, List.any_eq_true, List.any_eq_true]
  constructor
  · rintro ⟨k, hk, h⟩
    have hk := List.mem_range.1 hk
    exact ⟨l[k], List.getElem_mem hk, by simpa [hk] using h⟩
  · rintro ⟨x, hx, h⟩
    obtain ⟨k, hk, rfl⟩ := List.mem_iff_getElem.1 hx
    exact ⟨k, List.mem_range.2 hk, by simpa [hk] using h⟩
theorem indexS (l : List Str) (hl : BL l.length) (g : Nat) (cap : List AV) (p : Nat → Bool) (Ak : Nat → AO) (hg : Ent Tryz.prog g)
    (H : ∀ k (h : k < l.length), ASpec Tryz.prog g (.str l[k] :: cap) (Ak k) (fun v B => v = .bool (p k) ∧ B = Ak (k + 1))) :
    ASpec Tryz.prog 73 [strs l, .fn (.func g) [] cap] (Ak 0) (fun v B => ∃ k ≤ l.length, B = Ak k ∧ ((v = .int .i64 (-1) ∧ (List.range l.length).any p = false) ∨ ∃ j : Nat, (j : Int) ≤ 9223372036854775807 ∧ v = .int .i64 j ∧ (List.range l.length).any p = true)) := by
  refine ASpec.by Tryz.func73 rfl Tryz.ntmps73 [] rfl ?_
  (conv => whnf)
  refine LK.mk (ι := {k : Nat // k ≤ l.length ∧ (List.range k).any p = false}) (fun k => [(0, .v (strs l)), (1, .v (.fn (.func g) [] cap)), (7, .v (.int .i64 l.length)), (8, .v (.int .i64 k.1))]) (fun _ => []) (fun k => Ak k.1) (fun k => l.length - k.1) ⟨0, by simp⟩ ?_ ?_
  · exact ⟨⟨Sub.refl _, Sub.refl _, Sub.refl _, Sub.refl _, trivial⟩, trivial, AO.le.refl _⟩
  rintro ⟨k, hk, he⟩
  (conv => whnf)
  refine BK.dec (fun h => ?_) (fun h => ?_) <;> (conv => whnf)
  · have hk' : k < l.length := by have : (k : Int) < l.length := h; omega
    refine RK.mk k _ rfl (map_get hk') ?_
    (conv => whnf)
    refine CK.mk hg (H k hk') (Subs.refl _) ?_
    rintro _ _ ⟨rfl, rfl⟩
    cases hp : p k <;> (conv => whnf)
    · refine IK.in64 (by have : BL l.length := hl; dsimp only; omega) (by have : BL l.length := hl; dsimp only; omega) ?_
      (conv => whnf)
      exact ⟨⟨k + 1, hk', any_step he hp⟩, ⟨⟨Sub.refl _, Sub.refl _, Sub.refl _, Sub.refl _, trivial⟩, trivial, AO.le.refl _⟩, by simp; omega⟩
    · exact FK.mk (Sub.refl _) (AO.le.refl _) ⟨k + 1, hk', rfl, .inr ⟨k, by have : BL l.length := hl; omega, rfl, any_yes hk' hp⟩⟩
  · have hk' : k = l.length := by have : ¬ (k : Int) < l.length := h; omega
    subst hk'
    exact FK.mk (Sub.refl _) (AO.le.refl _) ⟨_, Nat.le_refl _, rfl, .inl ⟨rfl, he⟩⟩
theorem containsS (l : List Str) (hl : BL l.length) (g : Nat) (cap : List AV) (p : Nat → Bool) (Ak : Nat → AO) (hg : Ent Tryz.prog g)
    (H : ∀ k (h : k < l.length), ASpec Tryz.prog g (.str l[k] :: cap) (Ak k) (fun v B => v = .bool (p k) ∧ B = Ak (k + 1))) :
    ASpec Tryz.prog 40 [strs l, .fn (.func g) [] cap] (Ak 0) (fun v B => v = .bool ((List.range l.length).any p) ∧ ∃ k ≤ l.length, B = Ak k) := by
  refine ASpec.by Tryz.func40 rfl Tryz.ntmps40 [] rfl ?_
  (conv => whnf)
  refine CK.mk ent73 (indexS l hl g cap p Ak hg H) (Subs.refl _) ?_
  rintro v B ⟨k, hk, rfl, ⟨rfl, hr⟩ | ⟨j, hj, rfl, hr⟩⟩ <;> (conv => whnf)
  · refine BK.dec (fun h => by omega) (fun h => ?_)
    (conv => whnf)
    exact FK.mk (Sub.refl _) (AO.le.refl _) ⟨by rw [hr], k, hk, rfl⟩
  · refine BK.dec (fun h => ?_) (fun h => by omega)
    (conv => whnf)
    exact FK.mk (Sub.refl _) (AO.le.refl _) ⟨by rw [hr], k, hk, rfl⟩
theorem indexP (l : List Pt) (hl : BL l.length) (g : Nat) (cap : List AV) (p : Nat → Bool) (Ak : Nat → AO) (hg : Ent Tryz.prog g)
    (H : ∀ k (h : k < l.length), ASpec Tryz.prog g (.agg (l[k]).c :: cap) (Ak k) (fun v B => v = .bool (p k) ∧ B = Ak (k + 1))) :
    ASpec Tryz.prog 74 [pts l, .fn (.func g) [] cap] (Ak 0) (fun v B => ∃ k ≤ l.length, B = Ak k ∧ ((v = .int .i64 (-1) ∧ (List.range l.length).any p = false) ∨ ∃ j : Nat, (j : Int) ≤ 9223372036854775807 ∧ v = .int .i64 j ∧ (List.range l.length).any p = true)) := by
  refine ASpec.by Tryz.func74 rfl Tryz.ntmps74 [] rfl ?_
  (conv => whnf)
  refine LK.mk (ι := {k : Nat // k ≤ l.length ∧ (List.range k).any p = false}) (fun k => [(0, .v (pts l)), (1, .v (.fn (.func g) [] cap)), (7, .v (.int .i64 l.length)), (8, .v (.int .i64 k.1))]) (fun _ => []) (fun k => Ak k.1) (fun k => l.length - k.1) ⟨0, by simp⟩ ?_ ?_
  · exact ⟨⟨Sub.refl _, Sub.refl _, Sub.refl _, Sub.refl _, trivial⟩, trivial, AO.le.refl _⟩
  rintro ⟨k, hk, he⟩
  (conv => whnf)
  refine BK.dec (fun h => ?_) (fun h => ?_) <;> (conv => whnf)
  · have hk' : k < l.length := by have : (k : Int) < l.length := h; omega
    refine RK.mk k _ rfl (map_get hk') ?_
    (conv => whnf)
    refine CK.mk hg (H k hk') (Subs.refl _) ?_
    rintro _ _ ⟨rfl, rfl⟩
    cases hp : p k <;> (conv => whnf)
    · refine IK.in64 (by have : BL l.length := hl; dsimp only; omega) (by have : BL l.length := hl; dsimp only; omega) ?_
      (conv => whnf)
      exact ⟨⟨k + 1, hk', any_step he hp⟩, ⟨⟨Sub.refl _, Sub.refl _, Sub.refl _, Sub.refl _, trivial⟩, trivial, AO.le.refl _⟩, by simp; omega⟩
    · exact FK.mk (Sub.refl _) (AO.le.refl _) ⟨k + 1, hk', rfl, .inr ⟨k, by have : BL l.length := hl; omega, rfl, any_yes hk' hp⟩⟩
  · have hk' : k = l.length := by have : ¬ (k : Int) < l.length := h; omega
    subst hk'
    exact FK.mk (Sub.refl _) (AO.le.refl _) ⟨_, Nat.le_refl _, rfl, .inl ⟨rfl, he⟩⟩
theorem containsP (l : List Pt) (hl : BL l.length) (g : Nat) (cap : List AV) (p : Nat → Bool) (Ak : Nat → AO) (hg : Ent Tryz.prog g)
    (H : ∀ k (h : k < l.length), ASpec Tryz.prog g (.agg (l[k]).c :: cap) (Ak k) (fun v B => v = .bool (p k) ∧ B = Ak (k + 1))) :
    ASpec Tryz.prog 42 [pts l, .fn (.func g) [] cap] (Ak 0) (fun v B => v = .bool ((List.range l.length).any p) ∧ ∃ k ≤ l.length, B = Ak k) := by
  refine ASpec.by Tryz.func42 rfl Tryz.ntmps42 [] rfl ?_
  (conv => whnf)
  refine CK.mk ent74 (indexP l hl g cap p Ak hg H) (Subs.refl _) ?_
  rintro v B ⟨k, hk, rfl, ⟨rfl, hr⟩ | ⟨j, hj, rfl, hr⟩⟩ <;> (conv => whnf)
  · refine BK.dec (fun h => by omega) (fun h => ?_)
    (conv => whnf)
    exact FK.mk (Sub.refl _) (AO.le.refl _) ⟨by rw [hr], k, hk, rfl⟩
  · refine BK.dec (fun h => ?_) (fun h => by omega)
    (conv => whnf)
    exact FK.mk (Sub.refl _) (AO.le.refl _) ⟨by rw [hr], k, hk, rfl⟩
theorem indexE (l : List Ed) (hl : BL l.length) (g : Nat) (cap : List AV) (p : Nat → Bool) (Ak : Nat → AO) (hg : Ent Tryz.prog g)
    (H : ∀ k (h : k < l.length), ASpec Tryz.prog g (.agg (l[k]).c :: cap) (Ak k) (fun v B => v = .bool (p k) ∧ B = Ak (k + 1))) :
    ASpec Tryz.prog 135 [eds l, .fn (.func g) [] cap] (Ak 0) (fun v B => ∃ k ≤ l.length, B = Ak k ∧ ((v = .int .i64 (-1) ∧ (List.range l.length).any p = false) ∨ ∃ j : Nat, (j : Int) ≤ 9223372036854775807 ∧ v = .int .i64 j ∧ (List.range l.length).any p = true)) := by
  refine ASpec.by Tryz.func135 rfl Tryz.ntmps135 [] rfl ?_
  (conv => whnf)
  refine LK.mk (ι := {k : Nat // k ≤ l.length ∧ (List.range k).any p = false}) (fun k => [(0, .v (eds l)), (1, .v (.fn (.func g) [] cap)), (7, .v (.int .i64 l.length)), (8, .v (.int .i64 k.1))]) (fun _ => []) (fun k => Ak k.1) (fun k => l.length - k.1) ⟨0, by simp⟩ ?_ ?_
  · exact ⟨⟨Sub.refl _, Sub.refl _, Sub.refl _, Sub.refl _, trivial⟩, trivial, AO.le.refl _⟩
  rintro ⟨k, hk, he⟩
  (conv => whnf)
  refine BK.dec (fun h => ?_) (fun h => ?_) <;> (conv => whnf)
  · have hk' : k < l.length := by have : (k : Int) < l.length := h; omega
    refine RK.mk k _ rfl (map_get hk') ?_
    (conv => whnf)
    refine CK.mk hg (H k hk') (Subs.refl _) ?_
    rintro _ _ ⟨rfl, rfl⟩
    cases hp : p k <;> (conv => whnf)
    · refine IK.in64 (by have : BL l.length := hl; dsimp only; omega) (by have : BL l.length := hl; dsimp only; omega) ?_
      (conv => whnf)
      exact ⟨⟨k + 1, hk', any_step he hp⟩, ⟨⟨Sub.refl _, Sub.refl _, Sub.refl _, Sub.refl _, trivial⟩, trivial, AO.le.refl _⟩, by simp; omega⟩
    · exact FK.mk (Sub.refl _) (AO.le.refl _) ⟨k + 1, hk', rfl, .inr ⟨k, by have : BL l.length := hl; omega, rfl, any_yes hk' hp⟩⟩
  · have hk' : k = l.length := by have : ¬ (k : Int) < l.length := h; omega
    subst hk'
    exact FK.mk (Sub.refl _) (AO.le.refl _) ⟨_, Nat.le_refl _, rfl, .inl ⟨rfl, he⟩⟩
theorem containsE (l : List Ed) (hl : BL l.length) (g : Nat) (cap : List AV) (p : Nat → Bool) (Ak : Nat → AO) (hg : Ent Tryz.prog g)
    (H : ∀ k (h : k < l.length), ASpec Tryz.prog g (.agg (l[k]).c :: cap) (Ak k) (fun v B => v = .bool (p k) ∧ B = Ak (k + 1))) :
    ASpec Tryz.prog 116 [eds l, .fn (.func g) [] cap] (Ak 0) (fun v B => v = .bool ((List.range l.length).any p) ∧ ∃ k ≤ l.length, B = Ak k) := by
  refine ASpec.by Tryz.func116 rfl Tryz.ntmps116 [] rfl ?_
  (conv => whnf)
  refine CK.mk ent135 (indexE l hl g cap p Ak hg H) (Subs.refl _) ?_
  rintro v B ⟨k, hk, rfl, ⟨rfl, hr⟩ | ⟨j, hj, rfl, hr⟩⟩ <;> (conv => whnf)
  · refine BK.dec (fun h => by omega) (fun h => ?_)
    (conv => whnf)
    exact FK.mk (Sub.refl _) (AO.le.refl _) ⟨by rw [hr], k, hk, rfl⟩
  · refine BK.dec (fun h => ?_) (fun h => by omega)
    (conv => whnf)
    exact FK.mk (Sub.refl _) (AO.le.refl _) ⟨by rw [hr], k, hk, rfl⟩
/-- With a function that changes nothing. -/
theorem containsSp (l : List Str) (hl : BL l.length) (g : Nat) (p : Str → Bool) (hg : Ent Tryz.prog g) (H : ∀ s ∈ l, PSpec Tryz.prog g [.str s] (.bool (p s))) :
    PSpec Tryz.prog 40 [strs l, .fn (.func g) [] []] (.bool (l.any p)) := by
  intro A
  refine (containsS l hl g [] (fun k => p (l.getD k [])) (fun _ => A) hg (fun k h => ?_)).mono ?_
  · have := H l[k] (List.getElem_mem h) A
    simpa [h] using this
  · rintro v B ⟨rfl, k, _, rfl⟩
    exact ⟨by rw [any_range], rfl⟩
theorem containsPp (l : List Pt) (hl : BL l.length) (g : Nat) (cap : List AV) (p : Pt → Bool) (A : AO) (hg : Ent Tryz.prog g) (H : ∀ s ∈ l, ASpec Tryz.prog g (.agg s.c :: cap) A (fun v B => v = .bool (p s) ∧ B = A)) :
    ASpec Tryz.prog 42 [pts l, .fn (.func g) [] cap] A (fun v B => v = .bool (l.any p) ∧ B = A) := by
  refine (containsP l hl g cap (fun k => p (l.getD k ⟨0, 0⟩)) (fun _ => A) hg (fun k h => ?_)).mono ?_
  · have := H l[k] (List.getElem_mem h)
    simpa [h] using this
  · rintro v B ⟨rfl, k, _, rfl⟩
    exact ⟨by rw [any_range], rfl⟩
theorem containsEp (l : List Ed) (hl : BL l.length) (g : Nat) (p : Ed → Bool) (hg : Ent Tryz.prog g) (H : ∀ s ∈ l, PSpec Tryz.prog g [.agg s.c] (.bool (p s))) :
    PSpec Tryz.prog 116 [eds l, .fn (.func g) [] []] (.bool (l.any p)) := by
  intro A
  refine (containsE l hl g [] (fun k => p (l.getD k ⟨0, [], [], [], ⟨0, 0⟩, [], [], [], ⟨[], 0, ⟨0, 0⟩, [], []⟩⟩)) (fun _ => A) hg (fun k h => ?_)).mono ?_
  · have := H l[k] (List.getElem_mem h) A
    simpa [h] using this
  · rintro v B ⟨rfl, k, _, rfl⟩
    exact ⟨by rw [any_range], rfl⟩

/-! ### Digests, short strings, names -/
def isP (s : Str) : Bool := decide (s.length = 16) && decide (Lib.trimS s hexB = [])
theorem is_ok (s : Str) (hs : BL s.length) : PSpec Tryz.prog 51 [.str s] (.bool (isP s)) := by
  refine PSpec.by Tryz.func51 rfl Tryz.ntmps51 [] rfl fun A => ?_
  (conv => whnf)
  refine BK.eq (fun h => ?_) (fun h => ?_) <;> (conv => whnf)
  · refine CK.pure ent80 (trim_ok s (by omega)) (Subs.refl _) ?_
    (conv => whnf)
    refine BK.eq (fun h2 => ?_) (fun h2 => ?_) <;> (conv => whnf)
    · exact FK.eq (b_eq (by unfold isP; rw [show s.length = 16 by omega, h2]; rfl))
    · exact FK.eq (b_eq (by unfold isP; rw [show s.length = 16 by omega]; simp [h2]))
  · exact FK.eq (b_eq (by unfold isP; have : ¬ s.length = 16 := by omega
                          simp [this]))
theorem notIs_ok (s : Str) (hs : BL s.length) : PSpec Tryz.prog 78 [.str s] (.bool (!isP s)) := by
  refine PSpec.by Tryz.func78 rfl Tryz.ntmps78 [] rfl fun A => ?_
  (conv => whnf)
  refine CK.bool ent51 (is_ok s hs) (Subs.refl _) (fun h => ?_) (fun h => ?_) <;> (conv => whnf)
  · exact FK.eq (b_eq (by rw [h]))
  · exact FK.eq (b_eq (by rw [h]))
theorem digests_ok (l : List Str) (hl : SW l) : PSpec Tryz.prog 49 [strs l] (.bool (l.all isP)) := by
  refine PSpec.by Tryz.func49 rfl Tryz.ntmps49 [] rfl fun A => ?_
  (conv => whnf)
  refine CK.pure ent40 (containsSp l hl.1 _ (fun s => !isP s) ent78 (fun s hs => notIs_ok s (hl.2 s hs))) (Subs.refl _) ?_
  have e : (!l.any fun s => !isP s) = l.all isP := by simp [List.any_eq_not_all_not]
  cases hh : l.any (fun s => !isP s) <;> (conv => whnf)
  · exact FK.eq (b_eq (by rw [← e, hh]))
  · exact FK.eq (b_eq (by rw [← e, hh]))
theorem notName_ok (s : Str) (hs : BL s.length) : PSpec Tryz.prog 154 [.str s] (.bool (!nameP s)) := by
  refine PSpec.by Tryz.func154 rfl Tryz.ntmps154 [] rfl fun A => ?_
  (conv => whnf)
  refine CK.bool ent48 (name_ok s hs) (Subs.refl _) (fun h => ?_) (fun h => ?_) <;> (conv => whnf)
  · exact FK.eq (b_eq (by rw [h]))
  · exact FK.eq (b_eq (by rw [h]))
theorem names_ok (l : List Str) (hl : SW l) : PSpec Tryz.prog 136 [strs l] (.bool (l.all nameP)) := by
  refine PSpec.by Tryz.func136 rfl Tryz.ntmps136 [] rfl fun A => ?_
  (conv => whnf)
  refine CK.pure ent40 (containsSp l hl.1 _ (fun s => !nameP s) ent154 (fun s hs => notName_ok s (hl.2 s hs))) (Subs.refl _) ?_
  have e : (!l.any fun s => !nameP s) = l.all nameP := by simp [List.any_eq_not_all_not]
  cases hh : l.any (fun s => !nameP s) <;> (conv => whnf)
  · exact FK.eq (b_eq (by rw [← e, hh]))
  · exact FK.eq (b_eq (by rw [← e, hh]))
theorem long_ok (s : Str) : PSpec Tryz.prog 41 [.str s] (.bool (decide (200 < s.length))) := by
  refine PSpec.by Tryz.func41 rfl Tryz.ntmps41 [] rfl fun A => ?_
  (conv => whnf)
  repeat' ((first | (refine BK.dec (fun h => ?_) (fun h => ?_)) | (refine BK.ne (fun h => ?_) (fun h => ?_)) | (refine BK.eq (fun h => ?_) (fun h => ?_)) | (refine BK.mk (fun h => ?_) (fun h => ?_)) | (refine IK.in64 (by first | omega | (dsimp only; omega)) (by first | omega | (dsimp only; omega)) ?_) | (refine NK.mk (by kernel_rfl) ?_)) <;> (conv => whnf))
  all_goals (refine FK.eq (b_eq ?_); simp; omega)
def shortP (s : Str) : Bool := decide (s.length ≤ 200)
theorem short_ok (l : List Str) (hl : BL l.length) : PSpec Tryz.prog 39 [strs l] (.bool (l.all shortP)) := by
  refine PSpec.by Tryz.func39 rfl Tryz.ntmps39 [] rfl fun A => ?_
  (conv => whnf)
  refine CK.pure ent40 (containsSp l hl _ (fun s => decide (200 < s.length)) ent41 (fun s hs => long_ok s)) (Subs.refl _) ?_
  have e : (!l.any fun s => decide (200 < s.length)) = l.all shortP := by
    rw [List.any_eq_not_all_not, Bool.not_not]
    congr 1; funext s; unfold shortP; rw [Bool.eq_iff_iff]; simp [Nat.not_lt]
  cases hh : l.any (fun s => decide (200 < s.length)) <;> (conv => whnf)
  · exact FK.eq (b_eq (by rw [← e, hh]))
  · exact FK.eq (b_eq (by rw [← e, hh]))
end Ab
end Go.Proofs.YtpmigkbcldffeaaGreatDoor
