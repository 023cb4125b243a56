/- ModerateBeginnings returns true. -/
import Derived.Test.YtpmigkbcldffeaaGreatDoorC10
set_option linter.unusedVariables false
set_option linter.unusedSimpArgs false
set_option linter.unusedSectionVars false
namespace Go.Proofs.YtpmigkbcldffeaaGreatDoor
namespace Ab
open Go.RowKit Go.Shelf Go.Lib
set_option maxRecDepth 10000
/-- Records that come in. -/
structure LI (l : List Rc) : Prop where
  room : l.length * 336 ≤ 140737488355328
  one : ∀ r ∈ l, r.wf
theorem LW.to0 {l : List Rc} (h : LW l) : LW0 l := ⟨h.len, fun r hr => (h.one r hr).1⟩
theorem LI.lw {l : List Rc} (h : LI l) : LW l := ⟨by have := h.room; show l.length ≤ _; omega, h.one⟩
theorem LI.snoc {l : List Rc} {x : Rc} (h : LI l) (hx : x.wf) : LW (l ++ [x]) := ⟨by have := h.room; show (l ++ [x]).length ≤ _; simp; omega, fun r hr => (List.mem_append.1 hr).elim (h.one r) (fun hr => by rw [List.mem_singleton.1 hr]; exact hx)⟩
theorem rc_lenM (l : List Rc) : ∀ r ∈ l.map Rc.c, r.length = 21 := fun r hr => by
  obtain ⟨x, _, rfl⟩ := List.mem_map.1 hr; rfl
theorem room1 {n : Nat} (h : n * 336 ≤ 140737488355328) : (n + n / 4 + 192) * 336 ≤ 281474976710656 := by omega
theorem room2 {n : Nat} (h : n * 336 ≤ 140737488355328) : (n + 1 + (n + 1) / 4 + 192) * 336 ≤ 281474976710656 := by omega
theorem kill_leM {A B : AO} (h : A.le B) (ob : Option Nat) : (A.kill ob).le (B.kill ob) := by
  cases ob with
  | none => exact h
  | some b =>
    refine ⟨h.rows, fun p x hx => ?_, h.maps, h.tys⟩
    have hx : (if p = b then none else B.toks p) = some x := hx
    show (if p = b then none else A.toks p) = some x
    split at hx
    · cases hx
    · rename_i e; rw [if_neg e]; exact h.toks p x hx
theorem tok_monoM {A B : AO} (h : A.le B) (ob : Option Nat) (sz e : Nat) : (A.tok ob sz e).le (B.tok ob sz e) := by
  cases ob with
  | none => exact h
  | some b =>
    refine ⟨h.rows, fun p x hx => ?_, h.maps, h.tys⟩
    have hx : (if p = b then some (sz, e) else B.toks p) = some x := hx
    show (if p = b then some (sz, e) else A.toks p) = some x
    split at hx
    · rename_i e; rw [if_pos e]; exact hx
    · rename_i e; rw [if_neg e]; exact h.toks p x hx
theorem setTy_monoM {A B : AO} (h : A.le B) (p : Nat) (T : TypeId) : (A.setTy p T).le (B.setTy p T) := by
  refine ⟨h.rows, h.toks, h.maps, fun q x hx => ?_⟩
  have hx : (if q = p then some T else B.tys q) = some x := hx
  show (if q = p then some T else A.tys q) = some x
  split at hx
  · rename_i e; rw [if_pos e]; exact hx
  · rename_i e; rw [if_neg e]; exact h.tys q x hx
theorem After.weakM {A B A' : AO} {ob ob' : Option Nat} {sz n : Nat} {T : TypeId} (h : A.le B) (k : After A ob ob' sz n T A') : ∃ B', A'.le B' ∧ After B ob ob' sz n T B' := by
  rcases k with ⟨k, rfl⟩ | ⟨p, k, hp, rfl⟩
  · exact ⟨_, tok_monoM (kill_leM h ob) _ _ _, .inl ⟨k, rfl⟩⟩
  · exact ⟨_, setTy_monoM (tok_monoM (kill_leM h ob) _ _ _) _ _, .inr ⟨p, k, fun hm => hp (h.mut hm), rfl⟩⟩
theorem entries_snoc (ms : List Int) (l : List Rc) (x : Rc) : entriesP ms (l ++ [x]) = stepE ms (entriesP ms l) x := by unfold entriesP; rw [List.foldl_append]; rfl
theorem step_new {ms : List Int} {es : List En} {x : Rc} (hk : x.Kind = 1) (h : ∀ e ∈ es, e.id ≠ idP x) : stepE ms es x = es ++ [⟨x.Edits, idP x, 1, [], x.Edits⟩] := by
  unfold stepE; rw [if_pos hk, if_neg (fun ⟨e, he, hs⟩ => h e he hs)]
theorem step_old {ms : List Int} {es : List En} {x : Rc} (hk : x.Kind = 1) {j : Nat} (hj : j < es.length) (h : es[j].id = idP x) : stepE ms es x = es := by
  unfold stepE; rw [if_pos hk, if_pos ⟨es[j], List.getElem_mem hj, h⟩]
theorem AK.wone {A : AO} {sz0 sz bytes : Nat} {T : TypeId} {ob : Option Nat} {e : Nat} {rows new : List (List AV)} {K : Option Nat → AO → Prop} {x : List AV} (hn : new = [x]) (hx : x.length = sz) (h1 : rows.length = e) (h0 : rows = [] ∨ sz0 = sz)
    (h2 : ∀ b, ob = some b → A.toks b = some (sz, e)) (h4 : (e + 1 + (e + 1) / 4 + 192) * bytes ≤ 281474976710656) (h6 : e + 1 ≤ 4611686018427387904)
    (h5 : ∀ ob' A', After A ob ob' sz (e + 1) T A' → K ob' A') : AK A sz0 sz bytes T ob e rows new K := by
  subst hn
  exact AK.wide h1 h0 h2 (by intro r hr; rw [List.mem_singleton.1 hr]; exact hx) h4 h6 h5
set_option maxHeartbeats 2000000 in
theorem beginnings_ok (l : List Rc) (hl : LI l) (w : Wd) (hw : BL w.ms.length) (x : Rc) (hx : x.wf) : PSpec Tryz.prog 7 [rcs l, .agg w.c, .agg x.c] (.bool true) := by
  refine PSpec.byE Tryz.func7 rfl Tryz.ntmps7 [] [] rfl fun A => ?_
  (conv => whnf)
  refine CK.pure ent8 head_ok (Subs.refl _) ?_
  (conv => whnf)
  refine NK.mk (by kernel_rfl) ?_
  (conv => whnf)
  refine AK.wide rfl (.inl rfl) (fun b hb => by cases hb) (rc_lenM l) ?_ ?_ ?_
  · show (0 + (l.map Rc.c).length + (0 + (l.map Rc.c).length) / 4 + 192) * 336 ≤ _
    rw [List.length_map, Nat.zero_add]
    exact room1 hl.room
  · rw [List.length_map]; have := hl.room; omega
  intro o1 A1 h1
  have hle1 : A1.le (A.tok o1 21 (0 + (l.map Rc.c).length)) := After.le (A := A) (ob := none) (e := 0) (fun b hb => by cases hb) h1
  have hf1 : ∀ b, o1 = some b → ¬ A.mut b := tok_fresh (A := A) (ob := none) (sz := 21) (e := 0) (fun b hb => by cases hb) (After.or h1)
  (conv => whnf)
  refine AK.wone (x := x.c) (by kernel_rfl) rfl (by show ([] ++ l.map Rc.c).length = 0 + (l.map Rc.c).length; rw [List.nil_append, Nat.zero_add]) (.inr rfl) (fun b hb => hle1.toks _ _ (tok_at b hb)) ?_ ?_ ?_
  · show (0 + (l.map Rc.c).length + 1 + (0 + (l.map Rc.c).length + 1) / 4 + 192) * 336 ≤ _
    rw [List.length_map, Nat.zero_add]
    exact room2 hl.room
  · rw [List.length_map]; have := hl.room; show 0 + l.length + 1 ≤ _; omega
  intro o2 A2 h2
  obtain ⟨B2, hB2, h2'⟩ := After.weakM hle1 h2
  have hle2 : A2.le A := AO.le.trans hB2 (AO.le.trans (After.le hf1 h2') (tok_le (tok_fresh hf1 (After.or h2'))))
  clear hle1 hf1 h1 h2 h2' hB2
  have hall : Sub (.os 21 o2 (0 + (l.map Rc.c).length + 1) ([] ++ l.map Rc.c ++ [x.c])) (rcs (l ++ [x])) := by
    have : rcs (l ++ [x]) = .sl 21 (0 + (l.map Rc.c).length + 1) ([] ++ l.map Rc.c ++ [x.c]) := by
      unfold rcs; simp
    rw [this]
    exact Sub.os_sl (by simp)
  (conv => whnf)
  have hla := hl.snoc hx
  refine CK.bool ent9 (lawFewM (l ++ [x]) hla.to0 w) (Subs.cons (Sub.trans (Sub.eq (by kernel_rfl)) hall) (Subs.refl _)) (fun hf => ?_) (fun hf => ?_) <;> (conv => whnf)
  rotate_left
  · exact FK.weak (Sub.refl _) hle2
  refine BK.ne (fun hk => ?_) (fun hk => ?_) <;> (conv => whnf)
  · exact FK.weak (Sub.refl _) hle2
  have hk : x.Kind = 1 := hk
  have h20 : l.length + 1 ≤ 20 := by
    unfold fewM rcsFew at hf
    simp only [Bool.and_eq_true, decide_eq_true_eq, List.length_append, List.length_cons, List.length_nil] at hf
    omega
  have hll := hl.lw
  have hex := entries_ew w.ms (l := l) hl.one
  have hes := entries_len w.ms l
  have hn := entries_nodup w.ms l
  have hsn := entries_snoc w.ms l x
  rcases find_en (entriesP w.ms l) (idP x) with hno | ⟨j, hj, hid⟩
  · rw [step_new hk hno] at hsn
    obtain ⟨es, hes0⟩ : ∃ es, es = entriesP w.ms l := ⟨_, rfl⟩
    rw [← hes0] at hsn hes hex hn hno
    refine PK.mk ent13 (status_to hll (by omega) hw hes0.symm) (Subs.refl _) ?_
    (conv => whnf)
    refine PK.mk ent13 (status_to hla (by simp; omega) hw hsn) (Subs.cons (Sub.trans (Sub.eq (by kernel_rfl)) hall) (Subs.refl _)) ?_
    (conv => whnf)
    refine NK.mk (by kernel_rfl) ?_
    (conv => whnf)
    refine PK.mk ent18 (id_ok x hx) (Subs.refl _) ?_
    (conv => whnf)
    refine PK.mk ent10 (of_to (w := w) (s := idP x) (o := none) hll (by omega) hw hes0.symm (ofE_no hno)) (Subs.refl _) ?_
    (conv => whnf)
    refine NK.mk (by kernel_rfl) ?_
    (conv => whnf)
    refine IK.in64 (by omega) (by omega) ?_
    (conv => whnf)
    refine BK.ne (fun hh => absurd (by show ((es ++ [(⟨x.Edits, idP x, 1, [], x.Edits⟩ : En)]).length : Int) = (es.length : Int) + 1; simp) hh) (fun _ => ?_)
    (conv => whnf)
    refine NK.mk ⟨by omega, by show (es.length : Int) ≤ ((es ++ [(⟨x.Edits, idP x, 1, [], x.Edits⟩ : En)]).length : Nat); simp; omega⟩ ?_
    (conv => whnf)
    refine PK.mk ent12 (refSts es es (by omega) hex) (Subs.cons (Sub.refl _) (Subs.cons (Sub.eq ?_) .nil)) ?_
    · show AV.sl 4 ((es.length : Int).toNat - 0) (((((es ++ [(⟨x.Edits, idP x, 1, [], x.Edits⟩ : En)]).map En.s).take (es.length : Int).toNat)).drop 0) = sts es
      rw [Int.toNat_natCast, List.drop_zero, List.map_append, List.take_left' (by simp)]
      rfl
    rw [decide_eq_true rfl]
    (conv => whnf)
    refine RK.mk es.length (⟨x.Edits, idP x, 1, [], x.Edits⟩ : En).s rfl (by show ((es ++ [(⟨x.Edits, idP x, 1, [], x.Edits⟩ : En)]).map En.s)[es.length]? = _; simp) ?_
    (conv => whnf)
    refine PK.mk ent18 (id_ok x hx) (Subs.refl _) ?_
    (conv => whnf)
    refine PK.mk ent15 (refSt (⟨x.Edits, idP x, 1, [], x.Edits⟩ : En) (⟨x.Edits, idP x, 1, [], x.Edits⟩ : En) ⟨hx.edits, hx.edit, hx.edits, hx.edit⟩) (Subs.refl _) ?_
    rw [decide_eq_true rfl]
    (conv => whnf)
    refine NK.mk (by kernel_rfl) ?_
    (conv => whnf)
    exact FK.weak (Sub.refl _) hle2
  · rw [step_old hk hj hid] at hsn
    obtain ⟨es, hes0⟩ : ∃ es, es = entriesP w.ms l := ⟨_, rfl⟩
    have hof : ofE es (idP x) = some (entriesP w.ms l)[j] := by rw [hes0]; exact ofE_yes hn hj hid
    obtain ⟨e, he⟩ : ∃ e, e = (entriesP w.ms l)[j] := ⟨_, rfl⟩
    rw [← he] at hof
    rw [← hes0] at hsn hes hex hn
    refine PK.mk ent13 (status_to hll (by omega) hw hes0.symm) (Subs.refl _) ?_
    (conv => whnf)
    refine PK.mk ent13 (status_to hla (by simp; omega) hw hsn) (Subs.cons (Sub.trans (Sub.eq (by kernel_rfl)) hall) (Subs.refl _)) ?_
    (conv => whnf)
    refine NK.mk (by kernel_rfl) ?_
    (conv => whnf)
    refine PK.mk ent18 (id_ok x hx) (Subs.refl _) ?_
    (conv => whnf)
    refine PK.mk ent10 (of_to (w := w) (s := idP x) (o := some e) hll (by omega) hw hes0.symm hof) (Subs.refl _) ?_
    (conv => whnf)
    refine NK.mk (by kernel_rfl) ?_
    (conv => whnf)
    refine CK.pure ent12 (refSts es es (by omega) hex) (Subs.refl _) ?_
    rw [decide_eq_true rfl]
    (conv => whnf)
    exact FK.weak (Sub.refl _) hle2
end Ab
end Go.Proofs.YtpmigkbcldffeaaGreatDoor
