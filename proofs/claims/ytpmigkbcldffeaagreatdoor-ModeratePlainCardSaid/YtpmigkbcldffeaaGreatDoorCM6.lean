/- ModerateOthers returns true. -/
import Derived.Test.YtpmigkbcldffeaaGreatDoorCM5
set_option linter.unusedVariables false
set_option linter.unusedSimpArgs false
set_option linter.unusedSectionVars false
namespace Go.Proofs.YtpmigkbcldffeaaGreatDoor
namespace Ab
open Go.RowKit Go.Shelf Go.Lib
set_option maxRecDepth 10000
theorem ids_from (ms : List Int) (l : List Rc) : ∀ e ∈ entriesP ms l, ∃ r ∈ l, r.Kind = 1 ∧ e.id = idP r := by
  have key : ∀ (l : List Rc) (es : List En) (Q : Str → Prop), (∀ e ∈ es, Q e.id) → (∀ r ∈ l, r.Kind = 1 → Q (idP r)) → ∀ e ∈ l.foldl (stepE ms) es, Q e.id := fun l => by
    induction l with
    | nil => exact fun es Q h _ => h
    | cons r l ih =>
      intro es Q h hr
      refine ih _ Q (fun e he => ?_) (fun x hx => hr x (List.mem_cons_of_mem _ hx))
      unfold stepE at he
      split at he
      · rename_i hk
        split at he
        · exact h e he
        · rcases List.mem_append.1 he with he | he
          · exact h e he
          · rw [List.mem_singleton.1 he]; exact hr r (by simp) hk
      · split at he
        · obtain ⟨x, hx, rfl⟩ := List.mem_map.1 he
          have k := h x hx
          split
          · rw [obey_id]; exact k
          · exact k
        · exact h e he
  exact key l [] (fun s => ∃ r ∈ l, r.Kind = 1 ∧ s = idP r) (fun e he => by cases he) (fun r hr hk => ⟨r, hr, hk, rfl⟩)
theorem step_idle {ms : List Int} {es : List En} {x : Rc} (h1 : x.Kind ≠ 1) (h3 : x.Kind = 3 → x.Author ∈ ms → ∀ e ∈ es, e.id ≠ x.Target) : stepE ms es x = es := by
  unfold stepE
  rw [if_neg h1]
  split
  · rename_i h; exact map_none (h3 h.1 h.2)
  · rfl
def insR (l : List Rc) (x : Rc) (k : Nat) : List Rc := (l.take k ++ [x]) ++ l.drop k
theorem entries_ins {ms : List Int} {l : List Rc} {x : Rc} {k : Nat} (h : stepE ms (entriesP ms (l.take k)) x = entriesP ms (l.take k)) : entriesP ms (insR l x k) = entriesP ms l := by
  unfold insR entriesP at *
  rw [List.foldl_append, List.foldl_append]
  show List.foldl (stepE ms) (stepE ms (List.foldl (stepE ms) [] (l.take k)) x) (l.drop k) = _
  rw [h, ← List.foldl_append, List.take_append_drop]
theorem ins_len (l : List Rc) (x : Rc) {k : Nat} (h : k ≤ l.length) : (insR l x k).length = l.length + 1 := by
  unfold insR; simp; omega
theorem ins_lw {l : List Rc} {x : Rc} {k : Nat} (hl : LI l) (hx : x.wf) (hk : k ≤ l.length) : LW (insR l x k) := ⟨by rw [ins_len l x hk]; have := hl.room; show l.length + 1 ≤ _; omega, fun r hr => by
  unfold insR at hr
  rcases List.mem_append.1 hr with hr | hr
  · rcases List.mem_append.1 hr with hr | hr
    · exact hl.one r (List.mem_of_mem_take hr)
    · rw [List.mem_singleton.1 hr]; exact hx
  · exact hl.one r (List.mem_of_mem_drop hr)⟩
set_option maxHeartbeats 1000000 in
theorem others_ok (l : List Rc) (hl : LI l) (w : Wd) (hw : BL w.ms.length) (x : Rc) (hx : x.wf) (n : Int) (hn : 0 ≤ n ∧ n < 256) : PSpec Tryz.prog 5 [rcs l, .agg w.c, .agg x.c, .int .u8 n] (.bool true) := by
  have hroom := hl.room
  refine PSpec.byE Tryz.func5 rfl Tryz.ntmps5 [] [] rfl fun A => ?_
  (conv => whnf)
  refine CK.pure ent8 head_ok (Subs.refl _) ?_
  (conv => whnf)
  refine IK.in64 (by omega) (by omega) ?_
  (conv => whnf)
  refine IK.in64 (by omega) (by omega) ?_
  (conv => whnf)
  refine NK.mk (by omega) ?_
  (conv => whnf)
  obtain ⟨k, hk, hkl⟩ : ∃ k : Nat, n.tmod ((l.length : Int) + 1) = k ∧ k ≤ l.length := by
    have h1 := Int.tmod_nonneg ((l.length : Int) + 1) hn.1
    have h2 := Int.tmod_lt_of_pos n (show (0 : Int) < (l.length : Int) + 1 by omega)
    exact ⟨(n.tmod ((l.length : Int) + 1)).toNat, by omega, by omega⟩
  rw [hk]
  refine NK.mk ⟨by omega, by show (k : Int) ≤ (l.length : Nat); omega⟩ ?_
  (conv => whnf)
  refine NK.mk (by kernel_rfl) ?_
  (conv => whnf)
  have rm : ∀ {m : Nat}, m ≤ l.length + 1 → (m + m / 4 + 192) * 336 ≤ 281474976710656 ∧ m ≤ 4611686018427387904 := fun h => by omega
  have t1 : (((l.map Rc.c).take (k : Int).toNat).drop 0).length = k := by simp; omega
  refine AK.wide rfl (.inl rfl) (fun b hb => by cases hb) (fun r hr => rc_lenM l r (List.mem_of_mem_take (List.mem_of_mem_drop hr))) ?_ ?_ ?_
  · show (0 + (((l.map Rc.c).take (k : Int).toNat).drop 0).length + (0 + (((l.map Rc.c).take (k : Int).toNat).drop 0).length) / 4 + 192) * 336 ≤ _
    rw [t1, Nat.zero_add]; exact (rm (by omega)).1
  · show 0 + (((l.map Rc.c).take (k : Int).toNat).drop 0).length ≤ _
    rw [t1, Nat.zero_add]; exact (rm (by omega)).2
  intro o1 A1 h1
  have hle1 : A1.le (A.tok o1 21 (0 + (((l.map Rc.c).take (k : Int).toNat).drop 0).length)) := After.le (A := A) (ob := none) (e := 0) (fun b hb => by cases hb) h1
  have hf1 : ∀ b, o1 = some b → ¬ A.mut b := tok_fresh (A := A) (ob := none) (sz := 21) (e := 0) (fun b hb => by cases hb) (After.or h1)
  clear h1
  (conv => whnf)
  refine AK.wone (x := x.c) (by kernel_rfl) rfl (by show ([] ++ ((l.map Rc.c).take (k : Int).toNat).drop 0).length = 0 + (((l.map Rc.c).take (k : Int).toNat).drop 0).length; rw [List.nil_append, Nat.zero_add]) (.inr rfl) (fun b hb => hle1.toks _ _ (tok_at b hb)) ?_ ?_ ?_
  · show (0 + (((l.map Rc.c).take (k : Int).toNat).drop 0).length + 1 + (0 + (((l.map Rc.c).take (k : Int).toNat).drop 0).length + 1) / 4 + 192) * 336 ≤ _
    rw [t1, Nat.zero_add]; exact (rm (by omega)).1
  · show 0 + (((l.map Rc.c).take (k : Int).toNat).drop 0).length + 1 ≤ _
    rw [t1, Nat.zero_add]; exact (rm (by omega)).2
  intro o2 A2 h2
  obtain ⟨B2, hB2, h2'⟩ := After.weakM hle1 h2
  have hle2 : A2.le (A.tok o2 21 (0 + (((l.map Rc.c).take (k : Int).toNat).drop 0).length + 1)) := AO.le.trans hB2 (After.le hf1 h2')
  have hf2 : ∀ b, o2 = some b → ¬ A.mut b := tok_fresh hf1 (After.or h2')
  clear h2 h2' hB2 hle1 hf1
  (conv => whnf)
  refine NK.mk ⟨by omega, by show (k : Int) ≤ (l.length : Nat); omega⟩ ?_
  (conv => whnf)
  have t3 : (((l.map Rc.c).take l.length).drop (k : Int).toNat).length = l.length - k := by simp
  refine AK.wide ?_ (.inr rfl) (fun b hb => Eq.trans (hle2.toks _ _ (tok_at b hb)) (by kernel_rfl)) (fun r hr => rc_lenM l r (List.mem_of_mem_take (List.mem_of_mem_drop hr))) ?_ ?_ ?_
  · refine Eq.trans (b := 0 + (((l.map Rc.c).take (k : Int).toNat).drop 0).length + 1) ?_ (by kernel_rfl)
    refine Eq.trans (b := (([] ++ ((l.map Rc.c).take (k : Int).toNat).drop 0) ++ [x.c]).length) (by kernel_rfl) ?_
    simp
  · refine Nat.le_trans (m := (0 + (((l.map Rc.c).take (k : Int).toNat).drop 0).length + 1 + (((l.map Rc.c).take l.length).drop (k : Int).toNat).length + (0 + (((l.map Rc.c).take (k : Int).toNat).drop 0).length + 1 + (((l.map Rc.c).take l.length).drop (k : Int).toNat).length) / 4 + 192) * 336) (Nat.le_of_eq (by kernel_rfl)) ?_
    rw [t1, t3]
    exact (rm (by omega)).1
  · refine Nat.le_trans (m := 0 + (((l.map Rc.c).take (k : Int).toNat).drop 0).length + 1 + (((l.map Rc.c).take l.length).drop (k : Int).toNat).length) (Nat.le_of_eq (by kernel_rfl)) ?_
    rw [t1, t3]
    exact (rm (by omega)).2
  intro o3 A3 h3
  obtain ⟨B3, hB3, h3'⟩ := After.weakM hle2 h3
  have hle3 : A3.le A := AO.le.trans hB3 (AO.le.trans (After.le hf2 h3') (tok_le (tok_fresh hf2 (After.or h3'))))
  clear h3 h3' hB3 hle2 hf2
  have hall : Sub (.os 21 o3 (0 + (((l.map Rc.c).take (k : Int).toNat).drop 0).length + 1 + (((l.map Rc.c).take l.length).drop (k : Int).toNat).length) ((([] ++ ((l.map Rc.c).take (k : Int).toNat).drop 0) ++ [x.c]) ++ ((l.map Rc.c).take l.length).drop (k : Int).toNat)) (rcs (insR l x k)) := by
    have : rcs (insR l x k) = .sl 21 (0 + (((l.map Rc.c).take (k : Int).toNat).drop 0).length + 1 + (((l.map Rc.c).take l.length).drop (k : Int).toNat).length) ((([] ++ ((l.map Rc.c).take (k : Int).toNat).drop 0) ++ [x.c]) ++ ((l.map Rc.c).take l.length).drop (k : Int).toNat) := by
      unfold rcs
      rw [ins_len l x hkl, t1, t3]
      congr 1
      · omega
      · unfold insR
        rw [List.map_append, List.map_append, List.map_take, List.map_drop, Int.toNat_natCast, List.drop_zero, List.nil_append, show (l.map Rc.c).take l.length = l.map Rc.c from by rw [← List.map_take, List.take_length]]
        rfl
    rw [this]
    exact Sub.os_sl (by simp; omega)
  have hla := ins_lw hl hx hkl
  have hil := ins_len l x hkl
  (conv => whnf)
  refine CK.bool ent9 (lawFewM (insR l x k) hla.to0 w) (Subs.cons (Sub.trans (Sub.eq (by kernel_rfl)) hall) (Subs.refl _)) (fun hf => ?_) (fun hf => ?_) <;> (conv => whnf)
  rotate_left
  · exact FK.weak (Sub.refl _) hle3
  refine BK.eq (fun hk1 => ?_) (fun hk1 => ?_) <;> (conv => whnf)
  · exact FK.weak (Sub.refl _) hle3
  have hk1 : x.Kind ≠ 1 := hk1
  have h20 : l.length + 1 ≤ 20 := by
    unfold fewM rcsFew at hf
    simp only [Bool.and_eq_true, decide_eq_true_eq, hil] at hf
    omega
  have hex := entries_ew w.ms (l := l) hl.one
  have hes := entries_len w.ms l
  refine BK.eq (fun hk3 => ?_) (fun hk3 => ?_) <;> (conv => whnf)
  rotate_left
  · have hst : entriesP w.ms (insR l x k) = entriesP w.ms l := entries_ins (step_idle hk1 (fun h => absurd h hk3))
    refine PK.mk ent13 (status_ok l hl.lw (by omega) w hw) (Subs.refl _) ?_
    (conv => whnf)
    refine PK.mk ent13 (status_to hla (by rw [hil]; omega) hw hst) (Subs.cons (Sub.trans (Sub.eq (by kernel_rfl)) hall) (Subs.refl _)) ?_
    (conv => whnf)
    refine PK.mk ent12 (refSts (entriesP w.ms l) (entriesP w.ms l) (by omega) hex) (Subs.refl _) ?_
    rw [decide_eq_true rfl]
    (conv => whnf)
    refine NK.mk (by kernel_rfl) ?_
    (conv => whnf)
    exact FK.weak (Sub.refl _) hle3
  refine CK.dec ent16 (refIsM w x.Author hw) (Subs.refl _) (fun hm => ?_) (fun hm => ?_) <;> (conv => whnf)
  rotate_left
  · have hst : entriesP w.ms (insR l x k) = entriesP w.ms l := entries_ins (step_idle hk1 (fun _ h => absurd h hm))
    refine PK.mk ent13 (status_ok l hl.lw (by omega) w hw) (Subs.refl _) ?_
    (conv => whnf)
    refine PK.mk ent13 (status_to hla (by rw [hil]; omega) hw hst) (Subs.cons (Sub.trans (Sub.eq (by kernel_rfl)) hall) (Subs.refl _)) ?_
    (conv => whnf)
    refine PK.mk ent12 (refSts (entriesP w.ms l) (entriesP w.ms l) (by omega) hex) (Subs.refl _) ?_
    rw [decide_eq_true rfl]
    (conv => whnf)
    refine NK.mk (by kernel_rfl) ?_
    (conv => whnf)
    exact FK.weak (Sub.refl _) hle3
  refine LK.mk (ι := {i : Nat // i ≤ k ∧ ∀ j (h : j < l.length), j < i → ¬ (l[j].Kind = 1 ∧ idP l[j] = x.Target)}) (fun i => [(0, .v (rcs l)), (5, .lp 0 0), (6, .lp 1 0), (9, .v (.bool true)), (10, .v (.int .i64 k)), (11, .v (rcs (insR l x k))), (12, .v (.int .i64 i.1))]) (fun _ => [w.c, x.c]) (fun _ => A3) (fun i => k - i.1) ⟨0, Nat.zero_le _, fun j _ h => absurd h (Nat.not_lt_zero j)⟩ ?_ ?_
  · exact ⟨⟨Sub.refl _, ⟨rfl, rfl, Nat.le_of_ble_eq_true rfl⟩, ⟨rfl, rfl, Nat.le_of_ble_eq_true rfl⟩, Sub.refl _, Sub.refl _, Sub.trans (Sub.eq (by kernel_rfl)) hall, Sub.refl _, trivial⟩, ⟨Subs.refl _, Subs.refl _, trivial⟩, AO.le.refl _⟩
  rintro ⟨i, hi, hno⟩
  (conv => whnf)
  refine BK.dec (fun h => ?_) (fun h => ?_) <;> (conv => whnf)
  · have hi' : i < k := by have : (i : Int) < (k : Int) := h; omega
    have hil' : i < l.length := by omega
    have hri := hl.one _ (List.getElem_mem hil')
    have next : ¬ (l[i].Kind = 1 ∧ idP l[i] = x.Target) → ∀ j (h : j < l.length), j < i + 1 → ¬ (l[j].Kind = 1 ∧ idP l[j] = x.Target) := fun hn j hj hji => by
      by_cases e : j = i
      · subst e; exact hn
      · exact hno j hj (by omega)
    refine RK.mk i _ rfl (map_get hil') ?_
    (conv => whnf)
    refine BK.eq (fun hc => ?_) (fun hc => ?_) <;> (conv => whnf)
    · refine RK.mk i _ rfl (map_get hil') ?_
      (conv => whnf)
      refine PK.mk ent18 (id_ok l[i] hri) (Subs.refl _) ?_
      (conv => whnf)
      refine BK.eq (fun ht => ?_) (fun ht => ?_) <;> (conv => whnf)
      · refine NK.mk (by kernel_rfl) ?_
        (conv => whnf)
        exact FK.weak (Sub.refl _) hle3
      · refine NK.mk (by kernel_rfl) ?_
        (conv => whnf)
        refine IK.in64 (by omega) (by omega) ?_
        (conv => whnf)
        exact ⟨⟨i + 1, hi', next (fun h => ht h.2)⟩, ⟨⟨Sub.refl _, ⟨rfl, rfl, Nat.le_of_ble_eq_true rfl⟩, ⟨rfl, rfl, Nat.le_of_ble_eq_true rfl⟩, Sub.refl _, Sub.refl _, Sub.refl _, Sub.refl _, trivial⟩, ⟨Subs.refl _, Subs.refl _, trivial⟩, AO.le.refl _⟩, by simp; omega⟩
    · refine NK.mk (by kernel_rfl) ?_
      (conv => whnf)
      refine IK.in64 (by omega) (by omega) ?_
      (conv => whnf)
      exact ⟨⟨i + 1, hi', next (fun h => hc h.1)⟩, ⟨⟨Sub.refl _, ⟨rfl, rfl, Nat.le_of_ble_eq_true rfl⟩, ⟨rfl, rfl, Nat.le_of_ble_eq_true rfl⟩, Sub.refl _, Sub.refl _, Sub.refl _, Sub.refl _, trivial⟩, ⟨Subs.refl _, Subs.refl _, trivial⟩, AO.le.refl _⟩, by simp; omega⟩
  · have hi' : i = k := by have : ¬ (i : Int) < (k : Int) := h; omega
    have hst : entriesP w.ms (insR l x k) = entriesP w.ms l := entries_ins (step_idle hk1 (fun _ _ e he hid => by
      obtain ⟨r, hr, hk, hid2⟩ := ids_from _ _ e he
      obtain ⟨j, hj, rfl⟩ := List.mem_iff_getElem.1 hr
      have hj2 : j < k ∧ j < l.length := by rw [List.length_take] at hj; omega
      rw [List.getElem_take] at hk hid2
      exact hno j hj2.2 (by omega) ⟨hk, hid2.symm.trans hid⟩))
    refine PK.mk ent13 (status_ok l hl.lw (by omega) w hw) (Subs.refl _) ?_
    (conv => whnf)
    refine PK.mk ent13 (status_to hla (by rw [hil]; omega) hw hst) (Subs.refl _) ?_
    (conv => whnf)
    refine PK.mk ent12 (refSts (entriesP w.ms l) (entriesP w.ms l) (by omega) hex) (Subs.refl _) ?_
    rw [decide_eq_true rfl]
    (conv => whnf)
    refine NK.mk (by kernel_rfl) ?_
    (conv => whnf)
    exact FK.weak (Sub.refl _) hle3
end Ab
end Go.Proofs.YtpmigkbcldffeaaGreatDoor
