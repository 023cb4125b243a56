/- strings.Builder.String. -/
import Derived.Test.YtpmigkbcldffeaaGreatDoorC6
import Derived.Shelf.Strings.Builder1
import Derived.Lib.AppendZerosOnto
import Derived.Lib.ItoaLen
set_option linter.unusedVariables false
set_option linter.unusedSimpArgs false
set_option linter.unusedSectionVars false
namespace Go.Proofs.YtpmigkbcldffeaaGreatDoor
namespace Ab
open Go.RowKit Go.Shelf Go.Lib
set_option maxRecDepth 100000
set_option maxHeartbeats 1000000 in
theorem stringWalk {w : World} (p b cap : Nat) (l : Str) (hcap : cap ≠ 0) (c1 : w.drew.cell? ⟨p, 1, none⟩ = some (.slice (some ⟨b, 0, none⟩) l.length cap))
    (hUS : (Builtin.unsafeString_ #[136, 3] 9 #[.pointer (some ⟨b, 0, none⟩), .int .i64 l.length]).run Tryz.prog w.drew = .ok (.string ⟨l.toArray⟩) (w.drew.freeze ⟨b, 0, none⟩ l.length)) :
    Calls Tryz.prog 59 #[.pointer (some ⟨p, 0, none⟩)] w fun e w' => e = .returned (.string ⟨l.toArray⟩) ∧ w' = w.drew.freeze ⟨b, 0, none⟩ l.length := by
  have hSD : (Builtin.unsafeSliceData_ #[99] 136 #[.slice (some ⟨b, 0, none⟩) l.length cap]).run Tryz.prog w.drew = .ok (.pointer (some ⟨b, 0, none⟩)) w.drew :=
    Lib.run_unsafeSliceData_row _ _ _ _ _ _ hcap
  have mx := mixed
  go_enter Tryz.func59, Tryz.ntmps59
  go_wp2
  go_region_o
  all_goals (go_wp2; go_ret; exact ⟨rfl, rfl⟩)
theorem freeze_other {w : World} {b q n : Nat} (h : q ≠ b) : (w.freeze ⟨b, 0, none⟩ n).heap[q]? = w.heap[q]? := by
  unfold World.freeze
  split
  · rfl
  · simp [Array.getElem?_modify, Ne.symm h]
theorem freeze_at {w : World} {b n : Nat} {arr : Array Value} {T lo hi : Nat} (h : w.heap[b]? = some (.cells arr T (lo, hi))) : ∃ lo' hi', (w.freeze ⟨b, 0, none⟩ n).heap[b]? = some (.cells arr T (lo', hi')) ∧ hi' ≤ max hi n := by
  unfold World.freeze
  split
  · exact ⟨lo, hi, h, by omega⟩
  · by_cases e : (lo == hi) = true
    · exact ⟨0, 0 + n, by simp only [Array.getElem?_modify, if_true, h, Option.map_some, e], by omega⟩
    · exact ⟨min lo 0, max hi (0 + n), by simp only [Array.getElem?_modify, if_true, h, Option.map_some, if_neg e], by omega⟩
theorem freeze_size {w : World} {b n : Nat} : (w.freeze ⟨b, 0, none⟩ n).heap.size = w.heap.size := by
  unfold World.freeze; split <;> simp
theorem freeze_cell {w : World} {b n : Nat} {arr : Array Value} {T lo hi : Nat} (h : w.heap[b]? = some (.cells arr T (lo, hi))) (q o : Nat) : (w.freeze ⟨b, 0, none⟩ n).cell? ⟨q, o, none⟩ = w.cell? ⟨q, o, none⟩ := by
  by_cases e : q = b
  · subst e
    obtain ⟨lo', hi', h', _⟩ := freeze_at (n := n) h
    simp [World.cell?, h, h']
  · simp [World.cell?, freeze_other e]
theorem string_ok (p b : Nat) (T : TypeId) (a : AV) (l : Str) (A : AO) (hne : l ≠ []) (hbp : b ≠ p) (hlen : l.length ≤ 1099511627776) :
    ASpec Tryz.prog 59 [.gp p 0] (A.bl p T a 1 l (some b)) (fun v B => v = .str l ∧ B = A.bl p T a 1 l (some b)) := by
  intro g w Vs hI hC hV
  obtain ⟨V, rfl, h1⟩ := vl1 hV
  have hV1 : V = .pointer (some ⟨p, 0, none⟩) := VR.is_gp h1
  subst hV1
  obtain ⟨⟨L, T0, hb, hL⟩, hS⟩ := hI.rows p _ bl_rows
  obtain ⟨X, L1, rfl, hX, hL1⟩ := hL.toVL.inv_cons
  obtain ⟨Y, L2, rfl, hY, hL2⟩ := hL1.inv_cons
  obtain rfl := hL2.inv_nil
  obtain ⟨arr, Tb, lo, hi, C, ht, hsz, hcp, heC, hhi, hfree⟩ := hI.toks b 1 l.length (show (if b = b then some (1, l.length) else _) = _ by simp)
  obtain ⟨arr2, fr2, ht2⟩ := hI.tys b 5 (show (if b = b then some 5 else _) = _ by simp)
  have hTb : Tb = 5 := by rw [ht] at ht2; injection ht2 with ht2; injection ht2
  subst hTb
  rcases hY.inv_os with ⟨h, _⟩ | ⟨b', c, C', hbb, rfl, hC', hcc, hle, hle2, hq⟩
  · cases h
  injection hbb with hbb
  subst hbb
  have e0 : l.length - (bytesAV l).length = 0 := by rw [bytes_len]; omega
  rw [e0, Nat.zero_mul] at hb hq
  rw [bytes_len] at hb
  have hl0 : l.length ≠ 0 := by simpa using hne
  have hcell : ∀ (j : Nat) x, l[j]? = some x → w.cell? ⟨b, j, none⟩ = some (.int .u8 x.toNat) := fun j x hx => by
    obtain ⟨hj, rfl⟩ := List.getElem?_eq_some_iff.1 hx
    obtain ⟨M, k1, k2, k3⟩ := hq j (by rw [bytes_len]; exact hj)
    have e1 : (bytesAV l)[j]'(by rw [bytes_len]; exact hj) = [.int .u8 l[j].toNat] := by simp [bytesAV]
    rw [e1] at k1
    obtain ⟨Z, rfl, k4⟩ := vl1 k1.toVL
    have := hI.sealed _ _ _ (k3 0 Z rfl)
    rw [vr_int k4] at this
    simpa using this
  have hUS := Lib.run_unsafeString_row (P := Tryz.prog) w.drew 136 3 9 5 Tryz.underlying136 (by kernel_rfl) b arr.size (by have : w.drew.heap[b]? = some (.cells arr 5 (lo, hi)) := ht; simp [World.shape?, this]) l hne (by omega) (by omega) (fun j x hx => by rw [addr_add, Nat.zero_add]; exact hcell j x hx)
  refine (stringWalk p b c l (by rw [e0] at hcc; omega) (by have : w.drew.heap[p]? = _ := hb; simp [World.cell?, this]) hUS).mono ?_
  rintro e w' ⟨rfl, rfl⟩
  obtain ⟨lo', hi', hat, hhi'⟩ := freeze_at (w := w.drew) (n := l.length) (show w.drew.heap[b]? = _ from ht)
  have hmb : (A.bl p T a 1 l (some b)).mut b := .inr (.inl (by rw [show (A.bl p T a 1 l (some b)).toks b = some (1, l.length) from (show (if b = b then some (1, l.length) else _) = _ by simp)]; simp))
  refine ⟨.str l, _, g, _, rfl, ⟨rfl, rfl⟩, str_vr l, ⟨fun q o v hv => ?_, fun q cs hq' => ?_, fun q sz n hq' => ?_, fun q es hq' => ?_, hI.apart, fun q n hq' => ?_, fun q t hq' => ?_⟩, ⟨.refl g, ?_, ?_, ?_, ?_, fun q hq1 hq2 => ?_, fun q h => .inl h, fun _ _ _ _ => rfl⟩⟩
  · rw [freeze_cell (w := w.drew) (show w.drew.heap[b]? = _ from ht)]; exact hI.sealed q o v hv
  · have hqb : q ≠ b := fun e => by
      have := hI.apart q (by rw [hq']; simp)
      rw [e, show (A.bl p T a 1 l (some b)).toks b = some (1, l.length) from (show (if b = b then some (1, l.length) else _) = _ by simp)] at this
      cases this
    obtain ⟨r1, r2⟩ := hI.rows q cs hq'
    exact ⟨r1.keep (.refl g) (freeze_other (w := w.drew) hqb), r2⟩
  · by_cases e : q = b
    · subst e
      have e2 : (some (1, l.length) : Option (Nat × Nat)) = some (sz, n) := by rw [← hq']; show _ = (if q = q then some (1, l.length) else _); simp
      injection e2 with e2; injection e2 with e2 e3
      subst e2; subst e3
      exact ⟨arr, _, lo', hi', C, hat, hsz, hcp, heC, by omega, hfree⟩
    · exact (hI.toks q sz n hq').keep (.refl g) (freeze_other (w := w.drew) e) (fun _ h => h)
  · have hqb : q ≠ b := fun e => by
      obtain ⟨_, _, k, _⟩ := hI.maps q es hq'
      rw [e, ht] at k; cases k
    exact (hI.maps q es hq').keep (.refl g) (freeze_other (w := w.drew) hqb)
  · rw [freeze_size]; exact hI.cps q n hq'
  · obtain ⟨ar, f, k⟩ := hI.tys q t hq'
    by_cases e : q = b
    · subst e
      rw [ht] at k; injection k with k; injection k with _ k _; subst k
      exact ⟨_, _, hat⟩
    · exact ⟨ar, f, (freeze_other (w := w.drew) e).trans k⟩
  · unfold World.freeze; split <;> rfl
  · unfold World.freeze; split <;> rfl
  · unfold World.freeze; split <;> rfl
  · rw [freeze_size]; exact Nat.le_refl _
  · exact freeze_other (w := w.drew) (fun e => hq2 (e ▸ hmb))
end Ab
end Go.Proofs.YtpmigkbcldffeaaGreatDoor

/- lexer.Quote. -/
namespace Go.Proofs.YtpmigkbcldffeaaGreatDoor
namespace Ab
open Go.RowKit Go.Shelf Go.Lib
set_option maxRecDepth 10000
theorem bld_self : bldTy 108 := by unfold bldTy; kernel_rfl
def escB (c : UInt8) : Str := if c = 10 then [92, 110] else if c = 34 ∨ c = 92 then [92, c] else [c]
def quoteP (s : Str) : Str := 34 :: s.flatMap escB ++ [34]
theorem bl_le {A : AO} {p : Nat} {T : TypeId} {a : AV} {sz : Nat} {l : Str} {ob : Option Nat} (hp : ¬ A.mut p) (hob : ∀ b, ob = some b → ¬ A.mut b) : (A.bl p T a sz l ob).le A := by
  have hq : ∀ {q : Nat}, A.mut q → q ≠ p := fun h e => hp (e ▸ h)
  refine ⟨fun q cs h => ⟨cs, ?_, Subs.refl _⟩, fun q x h => ?_, fun q x h => ?_, fun q x h => ?_⟩
  · have e := hq (.inl (by rw [h]; simp))
    cases ob <;> (show (if q = p then _ else A.rows q) = _; rw [if_neg e]; exact h)
  · cases ob with
    | none => exact h
    | some b =>
      have e : q ≠ b := fun e => hob b rfl (.inr (.inl (by rw [← e, h]; simp)))
      show (if q = b then _ else A.toks q) = _
      rw [if_neg e]; exact h
  · cases ob <;> exact h
  · have e := hq (.inr (.inr (.inr (by rw [h]; simp))))
    cases ob with
    | none => show (if q = p then _ else A.tys q) = _; rw [if_neg e]; exact h
    | some b =>
      have e2 : q ≠ b := fun e => hob b rfl (.inr (.inr (.inr (by rw [← e, h]; simp))))
      show (if q = b then _ else if q = p then _ else A.tys q) = _
      rw [if_neg e2, if_neg e]; exact h
theorem esc_len (l : Str) : (l.flatMap escB).length ≤ 2 * l.length := by
  induction l with
  | nil => simp
  | cons c r ih =>
    rw [List.flatMap_cons, List.length_append, List.length_cons]
    have : (escB c).length ≤ 2 := by unfold escB; split <;> (try split) <;> simp
    omega
theorem esc_step {s : Str} {k : Nat} (h : k < s.length) : (34 :: (s.take k).flatMap escB) ++ escB s[k] = 34 :: (s.take (k + 1)).flatMap escB := by
  rw [List.take_succ_eq_append_getElem h, List.flatMap_append]; simp
theorem u8_eq {c : UInt8} {n : Nat} (h : c.toNat = n) (hn : n < 256) : c = UInt8.ofNat n := by
  apply UInt8.toNat_inj.1; rw [h]; simp; omega
theorem esc10 {c : UInt8} (h : c.toNat = 10) : escB c = [92, 110] := by rw [u8_eq h (by decide)]; rfl
theorem esc34 {c : UInt8} (h : c.toNat = 34 ∨ c.toNat = 92) : escB c = [92, c] := by
  rcases h with h | h <;> (rw [u8_eq h (by decide)]; rfl)
theorem esc0 {c : UInt8} (h1 : c.toNat ≠ 10) (h2 : c.toNat ≠ 34) (h3 : c.toNat ≠ 92) : escB c = [c] := by
  unfold escB
  rw [if_neg (fun e => h1 (by rw [e]; rfl)), if_neg (by rintro (e | e); exact h2 (by rw [e]; rfl); exact h3 (by rw [e]; rfl))]
theorem quote_ok (s : Str) (hs : s.length ≤ 1073741824) : PSpec Tryz.prog 120 [.str s] (.str (quoteP s)) := by
  refine PSpec.by Tryz.func120 rfl Tryz.ntmps120 [3] rfl fun A => ?_
  (conv => whnf)
  refine HK.mk fun p hp => ?_
  (conv => whnf)
  refine CK.mk ent58 (wb_ok p 108 .nilp 0 [] 34 none A bld_self (.inl rfl) (.inl rfl) .zero (by simp)) (Subs.refl _) ?_
  rintro _ _ ⟨rfl, ob, hB, rfl⟩
  (conv => whnf)
  refine LK.mk (ι := {x : Option Nat × Nat // x.2 ≤ s.length ∧ BI A p x.1 (34 :: (s.take x.2).flatMap escB)}) (fun x => [(0, .v (.str s)), (3, .v (.gp p 0)), (8, .v (.int .i64 s.length)), (9, .v (.int .i64 x.1.2))]) (fun _ => []) (fun x => A.bl p 108 (.gp p 0) 1 (34 :: (s.take x.1.2).flatMap escB) x.1.1) (fun x => s.length - x.1.2) ⟨(ob, 0), by simp, by simpa using hB⟩ ?_ ?_
  · exact ⟨⟨Sub.refl _, Sub.refl _, Sub.refl _, Sub.refl _, trivial⟩, trivial, AO.le.refl _⟩
  rintro ⟨⟨o1, k⟩, hk, hB1⟩
  (conv => whnf)
  refine BK.dec (fun h => ?_) (fun h => ?_) <;> (conv => whnf)
  · have hk' : k < s.length := by have : (k : Int) < s.length := h; omega
    have hl := esc_len (s.take k)
    rw [List.length_take] at hl
    refine SK.mk k s[k] rfl (by simp [hk']) ?_
    (conv => whnf)
    have hL : (34 :: (s.take k).flatMap escB).length ≤ 4294967296 := by simp only [List.length_cons]; omega
    have fin : ∀ {ob' : Option Nat} {l' : Str} {tm : TM}, l' = (34 :: (s.take k).flatMap escB) ++ escB s[k] → BI A p ob' l' → look tm 0 = some (.v (.str s)) → look tm 3 = some (.v (.gp p 0)) → look tm 8 = some (.v (.int .i64 s.length)) → look tm 9 = some (.v (.int .i64 ((k : Int) + 1))) →
        ∃ j : {x : Option Nat × Nat // x.2 ≤ s.length ∧ BI A p x.1 (34 :: (s.take x.2).flatMap escB)}, Le tm [] (A.bl p 108 (.gp p 0) 1 l' ob') [(0, .v (.str s)), (3, .v (.gp p 0)), (8, .v (.int .i64 s.length)), (9, .v (.int .i64 j.1.2))] [] (A.bl p 108 (.gp p 0) 1 (34 :: (s.take j.1.2).flatMap escB) j.1.1) ∧ s.length - j.1.2 < s.length - k := by
      intro ob' l' tm e hb h0 h3 h8 h9
      rw [esc_step hk'] at e
      subst e
      refine ⟨⟨(ob', k + 1), hk', hb⟩, ⟨⟨?_, ?_, ?_, ?_, trivial⟩, trivial, AO.le.refl _⟩, by simp; omega⟩
      · rw [h0]; exact Sub.refl _
      · rw [h3]; exact Sub.refl _
      · rw [h8]; exact Sub.refl _
      · rw [h9]; exact Sub.refl _
    refine BK.eq (fun h1 => ?_) (fun h1 => ?_) <;> (conv => whnf)
    · refine CK.mk ent56 (ws_ok p 108 (.gp p 0) 1 (34 :: (s.take k).flatMap escB) [92, 110] o1 A bld_self (.inr rfl) (.inr rfl) hB1 (by rw [show ([92, 110] : Str).length = 2 from rfl]; omega)) (Subs.refl _) ?_
      rintro _ _ ⟨rfl, ob', hB2, rfl⟩
      (conv => whnf)
      repeat' ((first | (refine BK.dec (fun h => ?_) (fun h => ?_)) | (refine BK.ne (fun h => ?_) (fun h => ?_)) | (refine BK.eq (fun h => ?_) (fun h => ?_)) | (refine BK.mk (fun h => ?_) (fun h => ?_)) | (refine IK.in64 (by first | omega | (dsimp only; omega)) (by first | omega | (dsimp only; omega)) ?_) | (refine NK.mk (by kernel_rfl) ?_)) <;> (conv => whnf))
      refine fin (by rw [esc10 (c := s[k]) (Int.ofNat.inj h1)]) hB2 rfl rfl rfl rfl
    · have n10 : s[k].toNat ≠ 10 := fun e => h1 (by rw [e]; rfl)
      refine BK.eq (fun h2 => ?_) (fun h2 => ?_) <;> (conv => whnf)
      · refine CK.mk ent58 (wb_ok p 108 (.gp p 0) 1 (34 :: (s.take k).flatMap escB) 92 o1 A bld_self (.inr rfl) (.inr rfl) hB1 (by first | omega | (rw [List.length_append]; show _ + 1 ≤ _; omega))) (Subs.refl _) ?_
        rintro _ _ ⟨rfl, o2, hB2, rfl⟩
        (conv => whnf)
        refine CK.mk ent58 (wb_ok p 108 (.gp p 0) 1 ((34 :: (s.take k).flatMap escB) ++ [92]) s[k] o2 A bld_self (.inr rfl) (.inr rfl) hB2 (by first | omega | (rw [List.length_append]; show _ + 1 ≤ _; omega))) (Subs.refl _) ?_
        rintro _ _ ⟨rfl, o3, hB3, rfl⟩
        (conv => whnf)
        repeat' ((first | (refine BK.dec (fun h => ?_) (fun h => ?_)) | (refine BK.ne (fun h => ?_) (fun h => ?_)) | (refine BK.eq (fun h => ?_) (fun h => ?_)) | (refine BK.mk (fun h => ?_) (fun h => ?_)) | (refine IK.in64 (by first | omega | (dsimp only; omega)) (by first | omega | (dsimp only; omega)) ?_) | (refine NK.mk (by kernel_rfl) ?_)) <;> (conv => whnf))
        exact fin (by rw [esc34 (.inl (Int.ofNat.inj h2)), List.append_assoc]; rfl) hB3 rfl rfl rfl rfl
      · refine BK.eq (fun h3 => ?_) (fun h3 => ?_) <;> (conv => whnf)
        · refine CK.mk ent58 (wb_ok p 108 (.gp p 0) 1 (34 :: (s.take k).flatMap escB) 92 o1 A bld_self (.inr rfl) (.inr rfl) hB1 (by first | omega | (rw [List.length_append]; show _ + 1 ≤ _; omega))) (Subs.refl _) ?_
          rintro _ _ ⟨rfl, o2, hB2, rfl⟩
          (conv => whnf)
          refine CK.mk ent58 (wb_ok p 108 (.gp p 0) 1 ((34 :: (s.take k).flatMap escB) ++ [92]) s[k] o2 A bld_self (.inr rfl) (.inr rfl) hB2 (by first | omega | (rw [List.length_append]; show _ + 1 ≤ _; omega))) (Subs.refl _) ?_
          rintro _ _ ⟨rfl, o3, hB3, rfl⟩
          (conv => whnf)
          repeat' ((first | (refine BK.dec (fun h => ?_) (fun h => ?_)) | (refine BK.ne (fun h => ?_) (fun h => ?_)) | (refine BK.eq (fun h => ?_) (fun h => ?_)) | (refine BK.mk (fun h => ?_) (fun h => ?_)) | (refine IK.in64 (by first | omega | (dsimp only; omega)) (by first | omega | (dsimp only; omega)) ?_) | (refine NK.mk (by kernel_rfl) ?_)) <;> (conv => whnf))
          exact fin (by rw [esc34 (.inr (Int.ofNat.inj h3)), List.append_assoc]; rfl) hB3 rfl rfl rfl rfl
        · refine CK.mk ent58 (wb_ok p 108 (.gp p 0) 1 (34 :: (s.take k).flatMap escB) s[k] o1 A bld_self (.inr rfl) (.inr rfl) hB1 (by first | omega | (rw [List.length_append]; show _ + 1 ≤ _; omega))) (Subs.refl _) ?_
          rintro _ _ ⟨rfl, o2, hB2, rfl⟩
          (conv => whnf)
          repeat' ((first | (refine BK.dec (fun h => ?_) (fun h => ?_)) | (refine BK.ne (fun h => ?_) (fun h => ?_)) | (refine BK.eq (fun h => ?_) (fun h => ?_)) | (refine BK.mk (fun h => ?_) (fun h => ?_)) | (refine IK.in64 (by first | omega | (dsimp only; omega)) (by first | omega | (dsimp only; omega)) ?_) | (refine NK.mk (by kernel_rfl) ?_)) <;> (conv => whnf))
          exact fin (by rw [esc0 n10 (fun e => h2 (by rw [e]; rfl)) (fun e => h3 (by rw [e]; rfl))]) hB2 rfl rfl rfl rfl
  · have hk' : k = s.length := by
      have h : ¬ (k : Int) < s.length := h
      have hk : k ≤ s.length := hk
      omega
    subst hk'
    have hl := esc_len s
    rw [List.take_length] at hB1
    have hL : (34 :: s.flatMap escB).length ≤ 4294967296 := by simp only [List.length_cons]; omega
    refine CK.mkA (A0 := A.bl p 108 (.gp p 0) 1 (34 :: s.flatMap escB) o1) (by show A.bl p _ _ 1 (34 :: (s.take s.length).flatMap escB) o1 = _; rw [List.take_length]) ent58 (wb_ok p 108 (.gp p 0) 1 (34 :: s.flatMap escB) 34 o1 A bld_self (.inr rfl) (.inr rfl) hB1 (by omega)) (Subs.refl _) ?_
    rintro _ _ ⟨rfl, o2, hB2, rfl⟩
    (conv => whnf)
    obtain ⟨b, rfl⟩ : ∃ b, o2 = some b := by
      cases o2 with
      | none => exact absurd (hB2.nil rfl) (by simp)
      | some b => exact ⟨b, rfl⟩
    refine CK.mk ent59 (string_ok p b 108 (.gp p 0) (quoteP s) A (by simp [quoteP]) (hB2.ne b rfl) (by unfold quoteP; rw [List.length_append]; show _ + 1 ≤ _; omega)) (Subs.refl _) ?_
    rintro _ _ ⟨rfl, rfl⟩
    (conv => whnf)
    exact FK.weak (Sub.refl _) (bl_le hp hB2.fresh)
end Ab
end Go.Proofs.YtpmigkbcldffeaaGreatDoor

/- object.writer.put. -/
namespace Go.Proofs.YtpmigkbcldffeaaGreatDoor
namespace Ab
open Go.RowKit Go.Shelf Go.Lib
set_option maxRecDepth 10000
def putP (l s : Str) : Str := if l = [] then s else l ++ [32] ++ s
theorem put_ok (p : Nat) (T : TypeId) (a : AV) (sz : Nat) (l s : Str) (ob : Option Nat) (A : AO) (hT : bldTy T) (ha : a = .nilp ∨ a = .gp p 0) (hsz : l = [] ∨ sz = 1) (hB : BI A p ob l) (hlen : l.length + s.length ≤ 1099511627775) :
    ASpec Tryz.prog 139 [.gp p 0, .str s] (A.bl p T a sz l ob) (fun v B => v = .tup [] ∧ ∃ ob', BI A p ob' (putP l s) ∧ B = A.bl p T (.gp p 0) 1 (putP l s) ob') := by
  refine ASpec.by Tryz.func139 rfl Tryz.ntmps139 [] rfl ?_
  (conv => whnf)
  refine CK.mk ent98 (bl_len p T a sz l ob A) (Subs.refl _) ?_
  rintro _ _ ⟨rfl, rfl⟩
  (conv => whnf)
  refine BK.dec (fun h => ?_) (fun h => ?_) <;> (conv => whnf)
  · have hl : l ≠ [] := fun e => by rw [e] at h; simp at h
    refine CK.mk ent58 (wb_ok p T a sz l 32 ob A hT ha hsz hB (by omega)) (Subs.refl _) ?_
    rintro _ _ ⟨rfl, o2, hB2, rfl⟩
    (conv => whnf)
    refine CK.mk ent56 (ws_ok p T (.gp p 0) 1 (l ++ [32]) s o2 A hT (.inr rfl) (.inr rfl) hB2 (by rw [List.length_append]; show _ + 1 + _ ≤ _; omega)) (Subs.refl _) ?_
    rintro _ _ ⟨rfl, o3, hB3, rfl⟩
    (conv => whnf)
    exact FK.mk (Sub.refl _) (AO.le.refl _) ⟨rfl, o3, by unfold putP; rw [if_neg hl]; exact hB3, by unfold putP; rw [if_neg hl]; rfl⟩
  · have hl : l = [] := List.eq_nil_of_length_eq_zero (by omega)
    subst hl
    refine CK.mk ent56 (ws_ok p T a sz [] s ob A hT ha (.inl rfl) hB (by omega)) (Subs.refl _) ?_
    rintro _ _ ⟨rfl, o3, hB3, rfl⟩
    (conv => whnf)
    exact FK.mk (Sub.refl _) (AO.le.refl _) ⟨rfl, o3, hB3, rfl⟩
end Ab
end Go.Proofs.YtpmigkbcldffeaaGreatDoor

/- slices.Clone, Compact, Grow at strings. -/
namespace Go.Proofs.YtpmigkbcldffeaaGreatDoor
namespace Ab
open Go.RowKit Go.Shelf Go.Lib Go.Sort
set_option maxRecDepth 10000
/-- A new block with a row of its own. -/
theorem newRow_ok {A : AO} {g : Gh} {w w' : World} (hI : Inv A g w) (hb : Below w.heap.size w w') {p : Nat} {T : TypeId} {L : List Value} {row : List AV} (hp : w.heap.size ≤ p) (hat : w'.heap[p]? = some (.cells L.toArray T (0, 0))) (hL : CL g row L) :
    Inv ((A.setTy p T).setRow p row) g w' ∧ St A g w ((A.setTy p T).setRow p row) g w' ∧ ¬ A.mut p := by
  have hn : ¬ A.mut p := fun h => absurd (hI.mut_lt h) (Nat.not_lt.2 hp)
  have hI' : Inv A g w' := hI.keep (.refl g) (fun b o v hv => by
      have h0 := hI.sealed b o v hv
      simp only [World.cell?] at h0 ⊢
      rw [hb.block b (hI.seal_lt hv)]; exact h0) (fun b hm => ⟨hb.block b (hI.mut_lt hm), fun _ h => h⟩) (fun b n hn => Nat.lt_of_lt_of_le (hI.cps b n hn) hb.size)
  refine ⟨⟨hI'.sealed, fun q cs e => ?_, hI'.toks, hI'.maps, fun q hq => ?_, hI'.cps, fun q t ht => ?_⟩, ⟨.refl g, hb.os, hb.tape, hb.output, hb.size, fun b hb' _ => hb.block b hb', fun b hm => ?_, fun _ _ _ _ => rfl⟩, hn⟩
  · unfold AO.setRow AO.setTy at e
    simp only at e
    split at e
    · rename_i hq; subst hq
      injection e with e; subst e
      exact ⟨⟨L, T, hat, hL⟩, fun o => hI.seal_none o hp⟩
    · exact hI'.rows q cs e
  · unfold AO.setRow AO.setTy at hq
    simp only at hq
    split at hq
    · rename_i e; subst e
      exact Classical.byContradiction fun hc => hn (.inr (.inl hc))
    · exact hI'.apart q hq
  · unfold AO.setTy AO.setRow at ht
    simp only at ht
    split at ht
    · rename_i e; subst e
      injection ht with ht; subst ht
      exact ⟨_, _, hat⟩
    · exact hI'.tys q t ht
  · by_cases e : b = p
    · exact .inr (e ▸ hp)
    · refine .inl ?_
      unfold AO.mut AO.setRow AO.setTy at hm
      simpa [e, AO.mut] using hm
theorem zinfo : ∃ i, Tryz.prog.info? 9 = some i ∧ i.size = 1 ∧ i.bytes = 16 ∧ i.zero = some (.string ByteArray.empty) := ⟨_, rfl, rfl, rfl, rfl⟩
set_option maxHeartbeats 2000000 in
theorem cloneWalk {w : World} (b o n c : Nat) (news : List Value) (h0 : 0 < n) (hl : news.length = n) (hbig : n ≤ 8796093022208) (hn : ∀ j v, news[j]? = some v → w.cell? ⟨b, o + j, none⟩ = some v) :
    Calls Tryz.prog 47 #[.slice (some ⟨b, o, none⟩) n c] w fun e w' => ∃ nc, n ≤ nc ∧ e = .returned (.slice (some ⟨w.heap.size + 1, 0, none⟩) n nc) ∧
      w' = (w.alloc (.cells #[] 9)).drew.alloc (.cells (news.toArray ++ Builtin.zeroCells (Value.string ByteArray.empty).cells (nc - n)) 9) := by
  have q24 : ∀ (w : World) (a : Option Addr) (n c n' c' : Nat), (binOp .eql 26 (.slice a n c) (.slice none n' c')).run Tryz.prog w = .ok (.bool a.isNone) w := fun w a n c n' c' => Lib.run_eql_slice_nil w _ _ a n c n' c' Tryz.underlying26
  obtain ⟨i, hi, hi1, hi2, hi3⟩ := zinfo
  have hr : ∀ ty, (Builtin.append_ #[26, 26] ty #[.slice (some ⟨w.heap.size, 0, none⟩) 0 0, .slice (some ⟨b, o, none⟩) n c]).run Tryz.prog (w.alloc (.cells #[] 9)) =
      .ok (.slice (some ⟨w.heap.size + 1, 0, none⟩) n (grownCap (w.alloc (.cells #[] 9)) n 0 9))
        ((w.alloc (.cells #[] 9)).drew.alloc (.cells (news.toArray ++ Builtin.zeroCells (Value.string ByteArray.empty).cells (grownCap (w.alloc (.cells #[] 9)) n 0 9 - n)) 9)) := fun ty => by
    have h := run_append_grow (P := Tryz.prog) (w := w.alloc (.cells #[] 9)) 26 ty 9 i _ Tryz.underlying26 hi hi3 ⟨w.heap.size, 0, none⟩ 0 0 [] (by simp) (fun j v hj => by simp at hj) ⟨b, o, none⟩ n c news (by rw [hl, hi1, Nat.mul_one]) (fun j v hj => by
      rw [addr_add]; exact Lib.cell?_alloc_some _ (hn j v hj)) (by omega) (by omega) (by
      rw [Nat.zero_add, hi2]
      have := nextslicecap_le (need := n) (old := 0) h0
      have : Builtin.nextslicecap n 0 * 16 ≤ (2 * n) * 16 := Nat.mul_le_mul_right _ this
      omega)
    simp only [Nat.zero_add, List.nil_append, Array.append_empty] at h
    simpa using h
  have hG := grownCap_ge (w.alloc (.cells #[] 9)) n 0 9
  obtain ⟨G, hGe⟩ : ∃ G, G = grownCap (w.alloc (.cells #[] 9)) n 0 9 := ⟨_, rfl⟩
  rw [← hGe] at hr hG
  have mx := mixed
  clear hn hGe
  go_enter Tryz.func47, Tryz.ntmps47
  go_wp2_with (at_builtin; refine Lib.wpList_append_run _ rfl _ _ _ _ rfl _ _ rfl rfl _ _ (hr _) ?_)
  all_goals (go_ret; exact ⟨G, hG, rfl, rfl⟩)
theorem zeros_str (n : Nat) : (Builtin.zeroCells (Value.string ByteArray.empty).cells n).toList = List.replicate n (Value.string ⟨[].toArray⟩) := by
  rw [show (Value.string ByteArray.empty).cells = #[Value.string ByteArray.empty] from rfl]
  simp [Builtin.zeroCells]
  apply List.ext_getElem
  · simp
  · intro i h1 h2
    simp [Nat.mod_one]; rfl
theorem str_cl {g : Gh} (l : List Str) : CL g (l.map AV.str) (l.map fun s => Value.string ⟨s.toArray⟩) :=
  ⟨⟨by simp, fun j h1 h2 => by simpa using str_vr (g := g) (l[j]'(by simpa using h1))⟩, fun V hV => by obtain ⟨s, _, rfl⟩ := List.mem_map.1 hV; rfl⟩
theorem clone_ok (l : List Str) (hl : l.length ≤ 8796093022208) (A : AO) : ASpec Tryz.prog 47 [strs l] A (fun v B => (l = [] ∧ v = .sl 1 0 [] ∧ B = A) ∨
    ∃ p row, l ≠ [] ∧ ¬ A.mut p ∧ row.take l.length = l.map AV.str ∧ l.length ≤ row.length ∧ v = .gs 1 p 0 l.length ∧ B = (A.setTy p 9).setRow p row) := by
  intro g w Vs hI hC hV
  obtain ⟨V, rfl, h1⟩ := vl1 hV
  obtain ⟨a, c, rfl, hn, hc, hr⟩ := h1.inv_sl
  by_cases h0 : 0 < l.length
  · obtain ⟨b, o, rfl, hq⟩ := hr h0
    have key : ∀ (j : Nat) (v : Value), (l.map fun s => Value.string ⟨s.toArray⟩)[j]? = some v → w.cell? ⟨b, o + j, none⟩ = some v := fun j v hv => by
      rw [List.getElem?_map] at hv
      cases hj : l[j]? with
      | none => rw [hj] at hv; cases hv
      | some s =>
        rw [hj] at hv
        injection hv with hv
        obtain ⟨hjl, hs⟩ := List.getElem?_eq_some_iff.1 hj
        obtain ⟨L, k1, k2, k3⟩ := hq j (by simpa using hjl)
        simp only [List.getElem_map] at k1
        obtain ⟨X, rfl, k4⟩ := vl1 k1.toVL
        have hX := vr_str k4
        have hcell := hI.sealed _ _ _ (k3 0 X rfl)
        rw [← hv, ← hs]
        show _ = some (Value.string ⟨l[j].toArray⟩)
        rw [← hX]
        simpa using hcell
    refine (cloneWalk b o l.length c _ h0 (by simp) hl key).mono ?_
    rintro e w' ⟨nc, hnc, rfl, rfl⟩
    have hat : (((w.alloc (.cells #[] 9)).drew.alloc (.cells ((l.map fun s => Value.string ⟨s.toArray⟩).toArray ++ Builtin.zeroCells (Value.string ByteArray.empty).cells (nc - l.length)) 9))).heap[w.heap.size + 1]? =
        some (.cells ((l.map fun s => Value.string ⟨s.toArray⟩) ++ List.replicate (nc - l.length) (Value.string ⟨[].toArray⟩)).toArray 9 (0, 0)) := by
      have e1 : (l.map fun s => Value.string ⟨s.toArray⟩).toArray ++ Builtin.zeroCells (Value.string ByteArray.empty).cells (nc - l.length) = ((l.map fun s => Value.string ⟨s.toArray⟩) ++ List.replicate (nc - l.length) (Value.string ⟨[].toArray⟩)).toArray := by
        apply Array.ext'
        rw [Array.toList_append, zeros_str]
      rw [e1]
      have := heap_alloc_new (w.alloc (.cells #[] 9)).drew (.cells ((l.map fun s => Value.string ⟨s.toArray⟩) ++ List.replicate (nc - l.length) (Value.string ⟨[].toArray⟩)).toArray 9)
      have e2 : (w.alloc (.cells #[] 9)).drew.heap.size = w.heap.size + 1 := by simp [World.drew]
      rw [e2] at this
      exact this
    have hb : Below w.heap.size w (((w.alloc (.cells #[] 9)).drew.alloc (.cells ((l.map fun s => Value.string ⟨s.toArray⟩).toArray ++ Builtin.zeroCells (Value.string ByteArray.empty).cells (nc - l.length)) 9))) :=
      (((Below.refl _ w).alloc (Nat.le_refl _) _).drew).alloc (by simp) _
    have hL : CL g ((l ++ List.replicate (nc - l.length) []).map AV.str) ((l.map fun s => Value.string ⟨s.toArray⟩) ++ List.replicate (nc - l.length) (Value.string ⟨[].toArray⟩)) := by
      have := str_cl (g := g) (l ++ List.replicate (nc - l.length) [])
      rw [List.map_append (f := fun s : Str => Value.string ⟨s.toArray⟩), List.map_replicate] at this
      exact this
    obtain ⟨i1, i2, i3⟩ := newRow_ok hI hb (Nat.le_succ _) hat hL
    exact ⟨_, _, g, _, rfl, .inr ⟨_, _, fun e => by rw [e] at h0; simp at h0, i3, by simp, by simp, rfl, rfl⟩, .gs _ _ _ _ _ hnc, i1, i2⟩
  · have : l = [] := List.eq_nil_of_length_eq_zero (by omega)
    subst this
    cases a with
    | none =>
      refine (Tryz.slices_Clone_string_nil 0 c w).mono ?_
      rintro e w' ⟨rfl, rfl⟩
      exact ⟨_, _, g, _, rfl, .inl ⟨rfl, rfl, rfl⟩, .sl0 _ _ _, hI, St.refl _ _ _⟩
    | some a =>
      refine (Tryz.slices_Clone_string_zero a c w).mono ?_
      rintro e w' ⟨v', rfl, ho, _, hb⟩
      refine ⟨_, _, g, _, rfl, .inl ⟨rfl, rfl, rfl⟩, ?_, ?_, ⟨.refl g, hb.os, hb.tape, hb.output, hb.size, fun b hb' _ => hb.block b hb', fun b hm => .inl hm, fun _ _ _ _ => rfl⟩⟩
      · rcases ho.2 with ⟨rfl, _⟩ | ⟨_, _, _, rfl, _⟩ <;> exact .sl0 _ _ _
      · exact hI.keep (.refl g) (fun b o v hv => by
          have h0 := hI.sealed b o v hv
          simp only [World.cell?] at h0 ⊢
          rw [hb.block b (hI.seal_lt hv)]; exact h0) (fun b hm => ⟨hb.block b (hI.mut_lt hm), fun _ h => h⟩) (fun b n hn => Nat.lt_of_lt_of_le (hI.cps b n hn) hb.size)
/-- No two neighbours are equal. -/
def apartP (l : List Str) : Bool := (List.range l.length).all fun j => decide (j = 0) || decide (l.getD j [] ≠ l.getD (j - 1) [])
theorem compact_len (l : List Str) : (Lib.compact l).length = l.length ↔ apartP l = true := by
  have e : ∀ j, j < l.length → Lib.keeps l.toArray j = (decide (j = 0) || decide (l.getD j [] ≠ l.getD (j - 1) [])) := fun j hj => by
    unfold Lib.keeps
    rw [Bool.eq_iff_iff]
    simp only [decide_eq_true_eq, Bool.or_eq_true]
    have h1 : l.toArray[j]! = l.getD j [] := by simp [hj]
    have h2 : l.toArray[j - 1]! = l.getD (j - 1) [] := by simp [show j - 1 < l.length by omega]
    rw [h1, h2]
  unfold Lib.compact Lib.compactUpTo apartP
  rw [List.length_map, List.all_eq_true]
  constructor
  · intro h j hj
    have hj' := List.mem_range.1 hj
    rw [← e j hj']
    have h2 : (List.range l.length).filter (Lib.keeps l.toArray) = List.range l.length := List.filter_eq_self.2 (by
      have := List.length_filter_eq_length_iff.1 (h.trans (List.length_range).symm)
      exact this)
    exact List.filter_eq_self.1 h2 j hj
  · intro h
    rw [List.filter_eq_self.2 (fun j hj => by rw [e j (List.mem_range.1 hj)]; exact h j hj), List.length_range]
theorem compact_ok (l : List Str) (p : Nat) (row : List AV) (A : AO) (hl : l.length ≤ 8796093022208) (hne : l ≠ []) (hp : A.rows p = some row) (hrow : row.take l.length = l.map AV.str) (hlen : l.length ≤ row.length) :
    ASpec Tryz.prog 46 [.gs 1 p 0 l.length] A (fun v B => ∃ row', v = .gs 1 p 0 (Lib.compact l).length ∧ B = A.setRow p row') := by
  intro g w Vs hI hC hV
  obtain ⟨V, rfl, h1⟩ := vl1 hV
  obtain ⟨c, rfl, hc⟩ : ∃ c, V = .slice (some ⟨p, 0, none⟩) l.length c ∧ l.length ≤ c := by
    cases h1 with
    | gs _ _ _ _ c hc => exact ⟨c, rfl, hc⟩
  obtain ⟨⟨L, T, hb, hL⟩, hS⟩ := hI.rows p row hp
  have hLl : L.length = row.length := hL.toVL.len
  have hat : ∀ j (hj : j < l.length), L[j]? = some (.string ⟨l[j].toArray⟩) := fun j hj => by
    have h2 : row[j]? = some (.str l[j]) := by
      have : (row.take l.length)[j]? = (l.map AV.str)[j]? := by rw [hrow]
      rw [List.getElem?_take, if_pos hj] at this
      rw [this]; simp [hj]
    obtain ⟨X, h3, h4⟩ := hL.toVL.getElem? h2
    rw [h3, vr_str h4]
  have hH : Holds encStr w p 0 l.toArray := fun j hj => by
    have hj' : j < l.length := by simpa using hj
    refine ⟨?_, by simp [World.frozen?, hb]⟩
    rw [Nat.zero_add, cell_of_row _ _ _ _ _ _ hb]
    have : L.toArray[j]? = L[j]? := by simp
    rw [this, hat j hj']
    simp [hj', encStr]
  have hle := Lib.compact_length_le l
  have hys : (Lib.compact l ++ List.replicate (l.length - (Lib.compact l).length) []).length = l.length := by simp; omega
  refine (Tryz.slices_Compact_string p 0 c l w hH (by omega) hc).mono ?_
  rintro e w' ⟨rfl, q, rfl⟩
  obtain ⟨ys, hyse⟩ : ∃ ys, ys = Lib.compact l ++ List.replicate (l.length - (Lib.compact l).length) [] := ⟨_, rfl⟩
  rw [← hyse] at hys ⊢
  have hcells : (putCells encStr 0 ys.toArray L.toArray) = ((ys.map fun s => Value.string ⟨s.toArray⟩) ++ L.drop l.length).toArray := by
    apply Array.ext'
    apply List.ext_getElem?
    intro j
    simp only [putCells, Array.getElem?_toList, Array.getElem?_mapIdx, List.getElem?_toArray]
    by_cases hj : j < l.length
    · have hjL : j < L.length := by omega
      rw [List.getElem?_append_left (by simpa [hys] using hj)]
      simp [hjL, hys, hj, encStr]
    · by_cases hjL : j < L.length
      · rw [List.getElem?_append_right (by simp [hys]; omega)]
        simp [hjL, hys, hj]
        rw [show l.length + (j - l.length) = j by omega, List.getElem?_eq_getElem hjL]
      · rw [List.getElem?_append_right (by simp [hys]; omega)]
        have e1 : L[j]? = none := List.getElem?_eq_none (by omega)
        have e2 : (L.drop l.length)[j - (ys.map fun s => Value.string ⟨s.toArray⟩).length]? = none := List.getElem?_eq_none (by simp [hys]; omega)
        rw [e1, e2]; rfl
  have hw : putRow encStr (Sort.ahead w q) p 0 ys.toArray = (Sort.ahead w q).setRow p ((ys.map fun s => Value.string ⟨s.toArray⟩) ++ L.drop l.length).toArray := by
    rw [← hcells]
    unfold putRow mapBlock World.setRow
    congr 1
    apply Array.ext_getElem?
    intro i
    simp only [Array.getElem?_modify]
    by_cases e : p = i
    · subst e
      have : (Sort.ahead w q).heap[p]? = some (.cells L.toArray T (0, 0)) := hb
      rw [if_pos rfl, if_pos rfl, this]; rfl
    · rw [if_neg e, if_neg e]
  have hId : Inv A g (Sort.ahead w q) := ⟨hI.sealed, fun p cs hp => hI.rows p cs hp, fun p s' e'' hp => hI.toks p s' e'' hp, fun p es hp => hI.maps p es hp, hI.apart, hI.cps, fun p t hp => hI.tys p t hp⟩
  have hSt : St A g w A g (Sort.ahead w q) := ⟨.refl g, rfl, rfl, rfl, Nat.le_refl _, fun _ _ _ => rfl, fun _ h => .inl h, fun _ _ _ _ => rfl⟩
  have hF : FR { N := 0, A0 := A, g0 := g, w0 := w, cst := hC } (fun _ => none) (fun _ => none) A g (fun _ => 0) { tmps := #[], defers := [] } (Sort.ahead w q) :=
    ⟨rfl, rfl, fun t v h => (by cases h), fun i cs h => (by cases h), fun i j h => absurd rfl h, hId, hSt⟩
  have h2 := hF.writeRow hp (ys.map AV.str ++ row.drop l.length) ((ys.map fun s => Value.string ⟨s.toArray⟩) ++ L.drop l.length) ((str_cl ys).append (hL.drop l.length))
  rw [hw]
  exact ⟨_, _, g, _, rfl, ⟨_, rfl, rfl⟩, .gs _ _ _ _ _ (by omega), h2.inv, h2.st⟩
theorem compact_nil (A : AO) : ASpec Tryz.prog 46 [.sl 1 0 []] A (fun v B => v = .sl 1 0 [] ∧ B = A) := by
  intro g w Vs hI hC hV
  obtain ⟨V, rfl, h1⟩ := vl1 hV
  obtain ⟨a, c, rfl, _⟩ := h1.inv_sl
  refine (Tryz.slices_Compact_string_empty a c w).mono ?_
  rintro e w' ⟨rfl, rfl⟩
  exact ⟨_, _, g, _, rfl, ⟨rfl, rfl⟩, h1, hI, St.refl _ _ _⟩
set_option maxHeartbeats 4000000 in
theorem growWalk {w : World} (base : Option Addr) (n : Nat) (h0 : 0 < n) (hbig : n ≤ 8796093022208) :
    Calls Tryz.prog 142 #[.slice base 0 0, .int .i64 n] w fun e w' => ∃ nc, n ≤ nc ∧ e = .returned (.slice (some ⟨w.heap.size, 0, none⟩) 0 nc) ∧
      w' = w.drew.alloc (.cells (Builtin.zeroCells (Value.string ByteArray.empty).cells n ++ Builtin.zeroCells (Value.string ByteArray.empty).cells (nc - n)) 9) := by
  obtain ⟨i, hi, hi1, hi2, hi3⟩ := zinfo
  have hold : (Builtin.firstCells i.size 0 (.slice base 0 0)).run Tryz.prog w.drew = .ok #[] w.drew := by
    cases base with
    | none => exact run_firstCells_none w.drew i.size 0 0 0
    | some a => exact run_firstCells_some w.drew i.size 0 a 0 0 [] (by simp) (fun j v hj => by simp at hj)
  have hr : ∀ ty, (Builtin.append_ #[26, 3] ty #[.slice base 0 0, .int .i64 n]).run Tryz.prog w =
      .ok (.slice (some ⟨w.heap.size, 0, none⟩) n (grownCap w n 0 9))
        (w.drew.alloc (.cells (Builtin.zeroCells (Value.string ByteArray.empty).cells n ++ Builtin.zeroCells (Value.string ByteArray.empty).cells (grownCap w n 0 9 - n)) 9)) := fun ty => by
    have h := Lib.run_append_grow_zeros w 26 3 ty 9 i _ .i64 .i64 Tryz.underlying26 Tryz.underlying3 hi hi3 base 0 0 [] hold n h0 (by omega) (by omega) (by omega) (by rw [hi2]; omega) (by
      rw [Nat.zero_add, hi2]
      have := nextslicecap_le (need := n) (old := 0) h0
      have : Builtin.nextslicecap n 0 * 16 ≤ (2 * n) * 16 := Nat.mul_le_mul_right _ this
      omega)
    simp only [Nat.zero_add] at h
    simpa using h
  have hG := grownCap_ge w n 0 9
  obtain ⟨G, hGe⟩ : ∃ G, G = grownCap w n 0 9 := ⟨_, rfl⟩
  have hG63 : G ≤ 9223372036854775807 := by
    have := grownCap_le_maxLen w n 0 9 (by unfold maxLen; omega)
    rw [← hGe] at this
    unfold maxLen at this
    omega
  rw [← hGe] at hr hG
  have mx := mixed
  have h1 : ¬ ((n : Int) < 0) := by omega
  have h3 : wrap64 (n : Int) = (n : Int) := by unfold wrap64; omega
  have h4 : (n : Int) > 0 := by omega
  clear hold hGe
  go_enter Tryz.func142, Tryz.ntmps142
  cases base with
  | none =>
    go_wp2_with (at_builtin; refine Lib.wpList_append_run _ rfl _ _ _ _ rfl _ _ rfl rfl _ _ (hr _) ?_)
    all_goals (go_ret; exact ⟨G, hG, rfl, rfl⟩)
  | some a =>
    obtain ⟨ab, ao, asp⟩ := a
    go_wp2_with (at_builtin; refine Lib.wpList_append_run _ rfl _ _ _ _ rfl _ _ rfl rfl _ _ (hr _) ?_)
    all_goals (go_ret; exact ⟨G, hG, rfl, rfl⟩)
theorem grow_ok (n : Nat) (h0 : 0 < n) (hbig : n ≤ 8796093022208) (A : AO) : ASpec Tryz.prog 142 [.os 0 none 0 [], .int .i64 n] A (fun v B => ∃ p, ¬ A.mut p ∧ v = .os 1 (some p) 0 [] ∧ B = (A.tok (some p) 1 0).setTy p 9) := by
  intro g w Vs hI hC hV
  obtain ⟨V, W, rfl, h1, h2⟩ := vl2 hV
  rw [vr_int h2]
  obtain ⟨base, rfl⟩ : ∃ base, V = .slice base 0 0 := by
    rcases h1.inv_os with ⟨_, _, a, rfl, _⟩ | ⟨b, _, _, hb, _⟩
    · exact ⟨a, rfl⟩
    · cases hb
  refine (growWalk base n h0 hbig).mono ?_
  rintro e w' ⟨nc, hnc, rfl, rfl⟩
  have hId : Inv A g w.drew := ⟨hI.sealed, fun p cs hp => hI.rows p cs hp, fun p s' e'' hp => hI.toks p s' e'' hp, fun p es hp => hI.maps p es hp, hI.apart, hI.cps, fun p t hp => hI.tys p t hp⟩
  have hSt : St A g w A g w.drew := ⟨.refl g, rfl, rfl, rfl, Nat.le_refl _, fun _ _ _ => rfl, fun _ h => .inl h, fun _ _ _ _ => rfl⟩
  have earr : Builtin.zeroCells (Value.string ByteArray.empty).cells n ++ Builtin.zeroCells (Value.string ByteArray.empty).cells (nc - n) = ([] ++ (List.replicate n (Value.string ⟨[].toArray⟩) ++ List.replicate (nc - n) (Value.string ⟨[].toArray⟩))).toArray := by
    apply Array.ext'
    rw [Array.toList_append, zeros_str, zeros_str]; simp
  obtain ⟨k1, k2, k3, k4⟩ := append_new hId (ob := none) (sz := 1) (e := 0) (C := nc) (Nat.zero_le _) (L := []) (Z := List.replicate n (Value.string ⟨[].toArray⟩) ++ List.replicate (nc - n) (Value.string ⟨[].toArray⟩)) (by simp) (by simp; omega) 9
  rw [earr]
  refine ⟨_, _, _, _, rfl, ⟨_, k4, rfl, rfl⟩, ?_, k1, hSt.trans k2⟩
  have := VR.mk_os (g := g.room w.heap.size nc []) (b := w.heap.size) (e := 0) (sz := 1) (c := nc) (C := nc) (rows := []) (by simp [Gh.room]) rfl (Nat.le_refl _) (Nat.zero_le _) (fun i hi => by simp at hi)
  exact this
end Ab
end Go.Proofs.YtpmigkbcldffeaaGreatDoor

/- slices.Concat at strings; the text of tags. -/
namespace Go.Proofs.YtpmigkbcldffeaaGreatDoor
namespace Ab
open Go.RowKit Go.Shelf Go.Lib
set_option maxRecDepth 10000
def rowsS (l : List Str) : List (List AV) := l.map fun s => [.str s]
theorem rowsS_len (l : List Str) : (rowsS l).length = l.length := by simp [rowsS]
theorem rowsS_app (a b : List Str) : rowsS a ++ rowsS b = rowsS (a ++ b) := by simp [rowsS]
def strss (l : List (List Str)) : AV := .sl 1 l.length (l.map fun x => [strs x])
theorem flat_step {ls : List (List Str)} {k : Nat} (h : k < ls.length) : (ls.take (k + 1)).flatten = (ls.take k).flatten ++ ls[k] := by
  rw [List.take_succ_eq_append_getElem h, List.flatten_append]; simp
theorem flat_le (ls : List (List Str)) (k : Nat) : (ls.take k).flatten.length ≤ ls.flatten.length := by
  have : ls.flatten = (ls.take k).flatten ++ (ls.drop k).flatten := by rw [← List.flatten_append, List.take_append_drop]
  rw [this, List.length_append]; omega
theorem setTy_le {A : AO} {p : Nat} {e : TypeId} (h : ¬ A.mut p) : (A.setTy p e).le A :=
  ⟨fun q ds hq => ⟨ds, hq, Subs.refl _⟩, fun q x hx => hx, fun q x hx => hx, fun q t hq => setTy_ne h q t hq⟩
theorem tokTy_le {A : AO} {p : Nat} {e : TypeId} {sz n : Nat} (h : ¬ A.mut p) : ((A.tok (some p) sz n).setTy p e).le (A.tok (some p) sz n) :=
  ⟨fun q ds hq => ⟨ds, hq, Subs.refl _⟩, fun q x hx => hx, fun q x hx => hx, fun q t hq => setTy_ne h q t hq⟩
set_option maxHeartbeats 1000000 in
theorem concat_ok (ls : List (List Str)) (h0 : ls.length ≤ 10000) (h1 : 0 < ls.flatten.length) (h2 : ls.flatten.length ≤ 1099511627776) : PSpec Tryz.prog 121 [strss ls] (strs ls.flatten) := by
  refine PSpec.by Tryz.func121 rfl Tryz.ntmps121 [] rfl fun A => ?_
  (conv => whnf)
  refine LK.mk (ι := {k : Nat // k ≤ ls.length}) (fun k => [(0, .v (strss ls)), (3, .v (.int .i64 (ls.take k.1).flatten.length)), (9, .v (strss ls)), (10, .v (.int .i64 ls.length)), (11, .v (.int .i64 k.1))]) (fun _ => []) (fun _ => A) (fun k => ls.length - k.1) ⟨0, by simp⟩ ?_ ?_
  · exact ⟨⟨Sub.refl _, Sub.refl _, Sub.refl _, Sub.refl _, Sub.refl _, trivial⟩, trivial, AO.le.refl _⟩
  rintro ⟨k, hk⟩
  (conv => whnf)
  refine BK.dec (fun h => ?_) (fun h => ?_) <;> (conv => whnf)
  · have hk' : k < ls.length := by have : (k : Int) < ls.length := h; omega
    have hs := flat_step hk'
    have hs1 := flat_le ls (k + 1)
    have hs2 : (ls.take (k + 1)).flatten.length = (ls.take k).flatten.length + ls[k].length := by rw [hs, List.length_append]
    refine RK.mk k _ rfl (map_get hk') ?_
    (conv => whnf)
    refine IK.in64 (by dsimp only; omega) (by dsimp only; omega) ?_
    (conv => whnf)
    refine BK.dec (fun h => ?_) (fun h => ?_) <;> (conv => whnf)
    · have h : ((ls.take k).flatten.length : Int) + ls[k].length < 0 := h
      omega
    · repeat' ((first | (refine BK.dec (fun h => ?_) (fun h => ?_)) | (refine BK.ne (fun h => ?_) (fun h => ?_)) | (refine BK.eq (fun h => ?_) (fun h => ?_)) | (refine BK.mk (fun h => ?_) (fun h => ?_)) | (refine IK.in64 (by first | omega | (dsimp only; omega)) (by first | omega | (dsimp only; omega)) ?_) | (refine NK.mk (by kernel_rfl) ?_)) <;> (conv => whnf))
      exact ⟨⟨k + 1, hk'⟩, ⟨⟨Sub.refl _, Sub.eq (by rw [hs2]; rfl), Sub.refl _, Sub.refl _, Sub.refl _, trivial⟩, trivial, AO.le.refl _⟩, by simp; omega⟩
  · have hk' : k = ls.length := by have : ¬ (k : Int) < ls.length := h; omega
    subst hk'
    have e0 : (ls.take ls.length).flatten.length = ls.flatten.length := by rw [List.take_length]
    refine CK.mk ent142 (grow_ok ls.flatten.length h1 (by omega) A) (Subs.cons (Sub.refl _) (Subs.cons (Sub.eq (by rw [e0])) .nil)) ?_
    rintro _ _ ⟨p, hp, rfl, rfl⟩
    (conv => whnf)
    refine LK.mk (ι := {x : Option Nat × Nat // x.2 ≤ ls.length ∧ ∀ b, x.1 = some b → ¬ A.mut b}) (fun x => [(6, .v (.os 1 x.1.1 (ls.take x.1.2).flatten.length (rowsS (ls.take x.1.2).flatten))), (25, .v (strss ls)), (26, .v (.int .i64 ls.length)), (27, .v (.int .i64 x.1.2))]) (fun _ => []) (fun x => A.tok x.1.1 1 (ls.take x.1.2).flatten.length) (fun x => ls.length - x.1.2) ⟨(some p, 0), by simp, by rintro b ⟨⟩; exact hp⟩ ?_ ?_
    · exact ⟨⟨Sub.refl _, Sub.refl _, Sub.refl _, Sub.refl _, trivial⟩, trivial, tokTy_le hp⟩
    rintro ⟨⟨ob, k⟩, hk, ho⟩
    (conv => whnf)
    refine BK.dec (fun h => ?_) (fun h => ?_) <;> (conv => whnf)
    · have hk' : k < ls.length := by have : (k : Int) < ls.length := h; omega
      have hs := flat_step hk'
      have hs1 := flat_le ls (k + 1)
      have hs2 : (ls.take (k + 1)).flatten.length = (ls.take k).flatten.length + ls[k].length := by rw [hs, List.length_append]
      refine RK.mk k _ rfl (map_get hk') ?_
      (conv => whnf)
      refine AK.mk (rowsS_len _) (.inr rfl) tok_at (fun r hr => ?_) ?_ ?_
      · obtain ⟨s, _, rfl⟩ := List.mem_map.1 hr; rfl
      · show ((ls.take k).flatten.length + (rowsS ls[k]).length) * 17 ≤ _
        rw [rowsS_len]; omega
      intro ob' A' h'
      (conv => whnf)
      repeat' ((first | (refine BK.dec (fun h => ?_) (fun h => ?_)) | (refine BK.ne (fun h => ?_) (fun h => ?_)) | (refine BK.eq (fun h => ?_) (fun h => ?_)) | (refine BK.mk (fun h => ?_) (fun h => ?_)) | (refine IK.in64 (by first | omega | (dsimp only; omega)) (by first | omega | (dsimp only; omega)) ?_) | (refine NK.mk (by kernel_rfl) ?_)) <;> (conv => whnf))
      have el : (ls.take k).flatten.length + (rowsS ls[k]).length = (ls.take (k + 1)).flatten.length := by rw [rowsS_len, hs2]
      exact ⟨⟨(ob', k + 1), hk', tok_fresh ho (After.or h')⟩, ⟨⟨Sub.eq (by show AV.os 1 ob' ((ls.take k).flatten.length + (rowsS ls[k]).length) (rowsS (ls.take k).flatten ++ rowsS ls[k]) = _; rw [el, rowsS_app, ← hs]), Sub.refl _, Sub.refl _, Sub.refl _, trivial⟩, trivial, by rw [← el]; exact After.le ho h'⟩, by simp; omega⟩
    · have hk' : k = ls.length := by have : ¬ (k : Int) < ls.length := h; have : k ≤ ls.length := hk; omega
      subst hk'
      refine FK.weak ?_ (tok_le ho)
      have e : ls.take ls.length = ls := List.take_length
      show Sub (.os 1 ob (ls.take ls.length).flatten.length (rowsS (ls.take ls.length).flatten)) _
      rw [e]
      have hr := rowsS_len ls.flatten
      unfold strs
      exact Sub.os_sl hr
/-! ### The text of tags -/
/-- A variable at block p that holds strings, in the row ob. -/
def AO.ws (A : AO) (p : Nat) (sz : Nat) (l : List Str) (ob : Option Nat) : AO := (A.setRow p [.os sz ob l.length (rowsS l)]).tok ob 1 l.length
structure WI (A : AO) (p : Nat) (ob : Option Nat) : Prop where
  fresh : ∀ b, ob = some b → ¬ A.mut b
  ne : ∀ b, ob = some b → b ≠ p
theorem WI.zero {A : AO} {p : Nat} : WI A p none := ⟨fun _ h => (by cases h), fun _ h => (by cases h)⟩
theorem ws_rows {A : AO} {p sz : Nat} {l : List Str} {ob : Option Nat} : (A.ws p sz l ob).rows p = some [.os sz ob l.length (rowsS l)] := by
  cases ob <;> exact setRow_at
theorem ws_mut {A : AO} {p sz : Nat} {l : List Str} {ob : Option Nat} {q : Nat} (h : A.mut q) : (A.ws p sz l ob).mut q := by
  rcases setRow_mut (p := p) (cs := [.os sz ob l.length (rowsS l)]) h with h | h | h | h
  · exact .inl (by cases ob <;> exact h)
  · refine .inr (.inl ?_)
    cases ob with
    | none => exact h
    | some b => show (if q = b then _ else _) ≠ none; split; simp; exact h
  · exact .inr (.inr (.inl (by cases ob <;> exact h)))
  · exact .inr (.inr (.inr (by cases ob <;> exact h)))
theorem ws_le {A : AO} {p sz : Nat} {l : List Str} {ob : Option Nat} (hp : ¬ A.mut p) (hob : ∀ b, ob = some b → ¬ A.mut b) : (A.ws p sz l ob).le A := by
  refine ⟨fun q cs h => ⟨cs, ?_, Subs.refl _⟩, fun q x h => ?_, fun q x h => ?_, fun q x h => ?_⟩
  · have e : q ≠ p := by rintro rfl; exact hp (.inl (by rw [h]; simp))
    cases ob <;> (show (if q = p then _ else A.rows q) = _; rw [if_neg e]; exact h)
  · cases ob with
    | none => exact h
    | some b =>
      have e : q ≠ b := fun e => hob b rfl (.inr (.inl (by rw [← e, h]; simp)))
      show (if q = b then _ else A.toks q) = _
      rw [if_neg e]; exact h
  · cases ob <;> exact h
  · cases ob <;> exact h
/-- One more. -/
theorem ws_next {A A' : AO} {p sz : Nat} {l : List Str} {s : Str} {ob ob' : Option Nat} {T : TypeId} (hB : WI A p ob)
    (h : After (A.ws p sz l ob) ob ob' 1 (l.length + 1) T A') : (A'.setRow p [.os 1 ob' (l.length + 1) (rowsS (l ++ [s]))]).le (A.ws p 1 (l ++ [s]) ob') ∧ WI A p ob' := by
  have hl : (l ++ [s]).length = l.length + 1 := by simp
  have hrows := h.rows
  refine ⟨⟨fun q cs hq => ?_, fun q x hq => ?_, fun q x hq => ?_, fun q x hq => ?_⟩, ?_, ?_⟩
  · by_cases e : q = p
    · subst e
      rw [ws_rows] at hq
      injection hq with hq; subst hq
      exact ⟨_, setRow_at, by rw [hl]; exact Subs.refl _⟩
    · refine ⟨cs, ?_, Subs.refl _⟩
      have h1 : A.rows q = some cs := by
        have : (A.ws p 1 (l ++ [s]) ob').rows q = A.rows q := by
          cases ob' <;> (show (if q = p then _ else A.rows q) = _; rw [if_neg e])
        rw [← this]; exact hq
      rw [setRow_row e, hrows]
      cases ob <;> (show (if q = p then _ else A.rows q) = _; rw [if_neg e]; exact h1)
  · have key : (((A.ws p sz l ob).kill ob).tok ob' 1 (l.length + 1)).toks q = some x := by
      cases ob' with
      | none =>
        have h1 : A.toks q = some x := hq
        cases ob with
        | none => exact h1
        | some b =>
          show (if q = b then none else if q = b then some (1, l.length) else A.toks q) = some x
          have : q ≠ b := fun e => hB.fresh b rfl (.inr (.inl (by rw [← e, h1]; simp)))
          rw [if_neg this, if_neg this]; exact h1
      | some b' =>
        have h1 : (if q = b' then some (1, (l ++ [s]).length) else A.toks q) = some x := hq
        show (if q = b' then some (1, l.length + 1) else ((A.ws p sz l ob).kill ob).toks q) = some x
        by_cases e : q = b'
        · rw [if_pos e] at h1 ⊢; rw [← hl]; exact h1
        · rw [if_neg e] at h1 ⊢
          cases ob with
          | none => exact h1
          | some b =>
            show (if q = b then none else if q = b then some (1, l.length) else A.toks q) = some x
            have : q ≠ b := fun e => hB.fresh b rfl (.inr (.inl (by rw [← e, h1]; simp)))
            rw [if_neg this, if_neg this]; exact h1
    rcases h with ⟨_, rfl⟩ | ⟨_, _, _, rfl⟩ <;> exact key
  · rcases h with ⟨_, rfl⟩ | ⟨_, _, _, rfl⟩ <;> (cases ob <;> cases ob' <;> exact hq)
  · rcases h with ⟨rfl, rfl⟩ | ⟨p', rfl, hp', rfl⟩
    · cases ob' <;> exact hq
    · have h1 : A.tys q = some x := hq
      have h2 : ¬ A.mut p' := fun hm => hp' (ws_mut hm)
      have h3 := setTy_ne (e := T) h2 q x h1
      cases ob <;> exact h3
  · intro b hb
    rcases h.or with h' | ⟨q, h', hq⟩
    · exact hB.fresh b (h'.symm.trans hb)
    · rw [hb] at h'; injection h' with h'; subst h'
      exact fun hm => hq (ws_mut hm)
  · intro b hb
    rcases h.or with h' | ⟨q, h', hq⟩
    · exact hB.ne b (h'.symm.trans hb)
    · rw [hb] at h'; injection h' with h'; subst h'
      rintro rfl
      exact hq (.inl (by rw [ws_rows]; simp))
def tagWord (t : Tg) : Str := (t.Key ++ [61]) ++ quoteP t.Val
theorem quote_len (s : Str) : (quoteP s).length ≤ 2 * s.length + 2 := by
  have := esc_len s
  unfold quoteP
  rw [List.length_append, List.length_cons]
  show _ + 1 + 1 ≤ _
  omega
theorem tag1_ok (t : Tg) (p sz : Nat) (l : List Str) (ob : Option Nat) (A : AO) (hsz : l = [] ∨ sz = 1) (hB : WI A p ob) (hl : l.length ≤ 1099511627776) (hk : t.Key.length ≤ 1099511627776) (hv : t.Val.length ≤ 1073741824) :
    ASpec Tryz.prog 161 [.agg t.c, .gp p 0] (A.ws p sz l ob) (fun v B => v = .tup [] ∧ ∃ ob', WI A p ob' ∧ B = A.ws p 1 (l ++ [tagWord t]) ob') := by
  have hq := quote_len t.Val
  refine ASpec.byE Tryz.func161 rfl Tryz.ntmps161 [] [] rfl ?_
  (conv => whnf)
  refine GK.mk _ ws_rows ?_
  (conv => whnf)
  refine NK.mk (by show _ + 1 ≤ _; omega) ?_
  (conv => whnf)
  refine PK.mk ent120 (quote_ok t.Val hv) (Subs.refl _) ?_
  (conv => whnf)
  refine NK.mk (by rw [List.length_append]; show _ + 1 + _ ≤ _; omega) ?_
  (conv => whnf)
  repeat' ((first | (refine BK.dec (fun h => ?_) (fun h => ?_)) | (refine BK.ne (fun h => ?_) (fun h => ?_)) | (refine BK.eq (fun h => ?_) (fun h => ?_)) | (refine BK.mk (fun h => ?_) (fun h => ?_)) | (refine IK.in64 (by first | omega | (dsimp only; omega)) (by first | omega | (dsimp only; omega)) ?_) | (refine NK.mk (by kernel_rfl) ?_)) <;> (conv => whnf))
  refine AK.one2 (x := [.str (tagWord t)]) (by kernel_rfl) rfl (rowsS_len l) (hsz.imp (fun h => by rw [h]; rfl) id) (fun b hb => ?_) ?_ ?_
  · subst hb
    show (if b = b then some (1, l.length) else _) = some (1, l.length); simp
  · show (l.length + 1) * 17 ≤ _
    omega
  intro ob' A' h' _
  (conv => whnf)
  refine GK.mk [.os sz ob l.length (rowsS l)] (show A'.rows p = _ by rw [show A'.rows = _ from After.rows h']; exact ws_rows) ?_
  (conv => whnf)
  obtain ⟨h1, h2⟩ := ws_next (s := tagWord t) hB h'
  refine FK.mk (Sub.refl _) ?_ ⟨rfl, ob', h2, rfl⟩
  rw [← rowsS_app] at h1
  exact h1
/-- The text of valid tags; then its error. -/
def tagText (l : List Tg) : Str × Int :=
  match tagsP l with
  | false => ([], 1)
  | true => match decide (((Lib.join (l.map tagWord) [32]).length : Int) > 20000) with
    | true => ([], 2)
    | false => (Lib.join (l.map tagWord) [32], 0)
theorem join_le (l : List Str) (c : UInt8) (n : Nat) (h : ∀ s ∈ l, s.length ≤ n) : (Lib.join l [c]).length ≤ l.length * (n + 1) := by
  cases l with
  | nil => simp [Lib.join_nil]
  | cons x r =>
    rw [Lib.join_length]
    have : ∀ m : List Str, (∀ s ∈ m, s.length ≤ n) → Lib.lens m ≤ m.length * n := fun m => by
      induction m with
      | nil => intro _; simp [Lib.lens]
      | cons y m ih =>
        intro hm
        have h1 := hm y (by simp)
        have h2 := ih (fun s hs => hm s (List.mem_cons_of_mem _ hs))
        rw [show Lib.lens (y :: m) = y.length + Lib.lens m by simp [Lib.lens], List.length_cons, Nat.succ_mul]
        omega
    have h3 := this (x :: r) h
    simp only [List.length_cons, List.length_nil, Nat.zero_add, Nat.one_mul] at h3 ⊢
    rw [Nat.mul_succ]
    omega
theorem tags_all {l : List Tg} (h : tagsP l = true) : l.length ≤ 60 ∧ ∀ t ∈ l, nameP t.Key = true ∧ t.Val ≠ [] ∧ t.Val.length ≤ 200 := by
  unfold tagsP at h
  rw [Bool.and_eq_true] at h
  have h2 := of_decide_eq_true h.2
  refine ⟨by omega, fun t ht => ?_⟩
  obtain ⟨k, hk, rfl⟩ := List.mem_iff_getElem.1 ht
  have h3 := List.all_eq_true.1 h.1 k (List.mem_range.2 hk)
  unfold tagAt at h3
  simp only [show l.getD k ⟨[], []⟩ = l[k] by simp [hk], Bool.not_eq_true', Bool.or_eq_false_iff, decide_eq_false_iff_not] at h3
  exact ⟨by simpa using h3.1, h3.2.2.1, by have := h3.2.2.2; omega⟩
theorem nameP_len {s : Str} (h : nameP s = true) : s.length ≤ 24 := by
  unfold nameP at h
  simp only [Bool.and_eq_true, decide_eq_true_eq] at h
  exact h.2.2
theorem tagWord_len {t : Tg} (h1 : t.Key.length ≤ 24) (h2 : t.Val.length ≤ 200) : (tagWord t).length ≤ 427 := by
  have := quote_len t.Val
  unfold tagWord
  rw [List.length_append, List.length_append]
  show _ + 1 + _ ≤ _
  omega
theorem tagText_ok (l : List Tg) (hl : BL l.length) (hw : ∀ t ∈ l, BL t.Key.length ∧ BL t.Val.length) : PSpec Tryz.prog 141 [tgs l] (.tup [.str (tagText l).1, .int .i64 (tagText l).2]) := by
  refine PSpec.by Tryz.func141 rfl Tryz.ntmps141 [4] rfl fun A => ?_
  (conv => whnf)
  refine CK.bool ent155 (tags_ok l hl hw) (Subs.refl _) (fun h => ?_) (fun h => ?_) <;> (conv => whnf)
  · obtain ⟨h60, hall⟩ := tags_all h
    refine HK.mk fun p hp => ?_
    (conv => whnf)
    refine LK.mk (ι := {x : Option Nat × Nat // x.2 ≤ l.length ∧ WI A p x.1}) (fun x => [(4, .v (.gp p 0)), (5, .v (.fn (.func 161) [] [.gp p 0])), (13, .v (tgs l)), (14, .v (.int .i64 l.length)), (15, .v (.int .i64 x.1.2))]) (fun _ => []) (fun x => A.ws p (if x.1.2 = 0 then 0 else 1) ((l.take x.1.2).map tagWord) x.1.1) (fun x => l.length - x.1.2) ⟨(none, 0), by simp, .zero⟩ ?_ ?_
    · exact ⟨⟨Sub.refl _, Sub.refl _, Sub.refl _, Sub.refl _, Sub.refl _, trivial⟩, trivial, ⟨fun q ds hq => ⟨ds, hq, Subs.refl _⟩, fun q x hx => hx, fun q x hx => hx, fun q t hq => setTy_ne hp q t hq⟩⟩
    rintro ⟨⟨ob, k⟩, hk, ho⟩
    (conv => whnf)
    refine BK.dec (fun h => ?_) (fun h => ?_) <;> (conv => whnf)
    · have hk' : k < l.length := by have : (k : Int) < l.length := h; omega
      obtain ⟨n1, n2, n3⟩ := hall _ (List.getElem_mem hk')
      have n4 := nameP_len n1
      refine RK.mk k _ rfl (map_get hk') ?_
      (conv => whnf)
      refine CK.mk ent161 (tag1_ok l[k] p (if k = 0 then 0 else 1) ((l.take k).map tagWord) ob A (by by_cases e : k = 0; left; simp [e]; right; simp [e]) ho (by simp; omega) (by omega) (by omega)) (Subs.refl _) ?_
      rintro _ _ ⟨rfl, ob', ho', rfl⟩
      (conv => whnf)
      repeat' ((first | (refine BK.dec (fun h => ?_) (fun h => ?_)) | (refine BK.ne (fun h => ?_) (fun h => ?_)) | (refine BK.eq (fun h => ?_) (fun h => ?_)) | (refine BK.mk (fun h => ?_) (fun h => ?_)) | (refine IK.in64 (by first | omega | (dsimp only; omega)) (by first | omega | (dsimp only; omega)) ?_) | (refine NK.mk (by kernel_rfl) ?_)) <;> (conv => whnf))
      have e1 : (l.take k).map tagWord ++ [tagWord l[k]] = (l.take (k + 1)).map tagWord := by rw [List.take_succ_eq_append_getElem hk', List.map_append]; rfl
      exact ⟨⟨(ob', k + 1), hk', ho'⟩, ⟨⟨Sub.refl _, Sub.refl _, Sub.refl _, Sub.refl _, Sub.refl _, trivial⟩, trivial, by rw [e1]; exact AO.le.refl _⟩, by simp; omega⟩
    · have hk' : k = l.length := by have : ¬ (k : Int) < l.length := h; have : k ≤ l.length := hk; omega
      subst hk'
      have ew : ∀ s ∈ l.map tagWord, s.length ≤ 427 := fun s hs => by
        obtain ⟨t, ht, rfl⟩ := List.mem_map.1 hs
        obtain ⟨n1, n2, n3⟩ := hall t ht
        exact tagWord_len (nameP_len n1) n3
      have ej := join_le (l.map tagWord) 32 427 ew
      have ej2 : (Lib.join (l.map tagWord) [32]).length ≤ 25680 := Nat.le_trans ej (by rw [List.length_map]; omega)
      refine GK.mk _ ws_rows ?_
      (conv => whnf)
      refine CK.pure ent122 (join_ok (l.map tagWord) [32] (by simp; omega) (by omega)) (Subs.cons (by
        show Sub (.os _ ob ((l.take l.length).map tagWord).length (rowsS ((l.take l.length).map tagWord))) (strs (l.map tagWord))
        rw [List.take_length]
        unfold strs
        by_cases e : l = []
        · subst e; exact Sub.os_sl0
        · rw [if_neg (by simpa using e)]
          exact Sub.os_sl (rowsS_len _)) (Subs.refl _)) ?_
      (conv => whnf)
      have hT : tagText l = match decide (((Lib.join (l.map tagWord) [32]).length : Int) > 20000) with | true => ([], 2) | false => (Lib.join (l.map tagWord) [32], 0) := by
        unfold tagText; rename_i hh; rw [hh]
      refine BK.mk (fun h => ?_) (fun h => ?_) <;> (conv => whnf)
      · exact FK.weak (Sub.eq (by rw [hT, h]; rfl)) (ws_le hp ho.fresh)
      · exact FK.weak (Sub.eq (by rw [hT, h]; rfl)) (ws_le hp ho.fresh)
  · exact FK.eq (by unfold tagText; rw [h]; rfl)
end Ab
end Go.Proofs.YtpmigkbcldffeaaGreatDoor

/- The text of an object. -/
namespace Go.Proofs.YtpmigkbcldffeaaGreatDoor
namespace Ab
open Go.RowKit Go.Shelf Go.Lib
set_option maxRecDepth 10000
theorem bld_writer : bldTy 177 := by unfold bldTy; kernel_rfl
structure VF (o : Ob) : Prop where
  k1 : 1 ≤ o.Kind
  k5 : o.Kind ≤ 5
  word : wordP o.Kind ≠ []
  wlen : (wordP o.Kind).length ≤ 5
  id : o.Id.length ≤ 24
  refs : o.Refs.length ≤ 2000
  ref : ∀ s ∈ o.Refs, s.length ≤ 24
  tags : tagsP o.Tags = true
  on : o.Kind = 1 → 0 ≤ o.At.X ∧ o.At.X < 1048576 ∧ 0 ≤ o.At.Y ∧ o.At.Y < 1048576
theorem validO_facts {o : Ob} (h : validO o = true) : VF o := by
  unfold validO headO at h
  simp only [Bool.and_eq_true, Bool.not_eq_true', beq_eq_false_iff_ne, decide_eq_false_iff_not] at h
  obtain ⟨⟨hw, hid, ht, _, hr⟩, hwr, htl⟩ := h
  obtain ⟨k1, k5⟩ := word_kind hw
  refine ⟨k1, k5, hw, ?_, nameP_len hid, by omega, fun s hs => ?_, ht, fun h1 => ?_⟩
  · unfold wordP; repeat' split
    all_goals decide
  · obtain ⟨k, hk, rfl⟩ := List.mem_iff_getElem.1 hs
    unfold wrongs at hwr
    have := List.any_eq_false.1 hwr k (List.mem_range.2 hk)
    unfold wrongP at this
    simp only [Bool.or_eq_true, not_or, Bool.not_eq_true', Bool.not_eq_false, show o.Refs.getD k [] = o.Refs[k] by simp [hk]] at this
    exact nameP_len this.2
  · unfold tailO at htl
    rw [if_pos h1] at htl
    unfold onP at htl
    simp only [Bool.and_eq_true, decide_eq_true_eq] at htl
    omega
def objBody (o : Ob) : Str :=
  if o.Kind = 1 then putP (putP (putP (putP [] (wordP o.Kind)) o.Id) (Lib.itoa o.At.X)) (Lib.itoa o.At.Y)
  else putP (putP (putP [] (wordP o.Kind)) o.Id) (([40] ++ Lib.join o.Refs [32]) ++ [41])
def objCut (l : Str) : Str × Int :=
  match decide ((l.length : Int) > 20000) with
  | true => ([], 2)
  | false => (l, 0)
def objText (o : Ob) : Str × Int :=
  match validO o with
  | false => ([], 1)
  | true => match decide ((o.Tags.length : Int) > 0) with
    | false => objCut (objBody o)
    | true => match (tagText o.Tags).2 != 0 with
      | true => ([], (tagText o.Tags).2)
      | false => objCut (putP (objBody o) (tagText o.Tags).1)
theorem put_len (l s : Str) : (putP l s).length ≤ l.length + s.length + 1 := by
  unfold putP; split
  · omega
  · rw [List.length_append, List.length_append]; show _ + 1 + _ ≤ _; omega
theorem put_ne {l s : Str} (h : l ≠ [] ∨ s ≠ []) : putP l s ≠ [] := by
  unfold putP; split
  · rename_i e; exact h.resolve_left (fun n => n e)
  · rename_i e; simp
theorem tagText_len (l : List Tg) : (tagText l).1.length ≤ 20000 := by
  unfold tagText
  split
  · simp
  · split
    · simp
    · rename_i h
      have := of_decide_eq_false h
      show (Lib.join (l.map tagWord) [32]).length ≤ 20000
      omega
set_option maxHeartbeats 1000000 in
theorem objText_ok (o : Ob) (ho : o.wf) : PSpec Tryz.prog 119 [.agg o.c] (.tup [.str (objText o).1, .int .i64 (objText o).2]) := by
  refine PSpec.by Tryz.func119 rfl Tryz.ntmps119 [4] rfl fun A => ?_
  (conv => whnf)
  refine CK.bool ent137 (valid_ok o ho) (Subs.refl _) (fun hv => ?_) (fun hv => ?_) <;> (conv => whnf)
  · have F := validO_facts hv
    have fw := F.word
    have fwl := F.wlen
    have fi := F.id
    refine HK.mk fun p hp => ?_
    (conv => whnf)
    refine CK.pure ent140 (word_ok o.Kind) (Subs.refl _) ?_
    (conv => whnf)
    refine CK.mk ent139 (put_ok p 177 .nilp 0 [] (wordP o.Kind) none A bld_writer (.inl rfl) (.inl rfl) .zero (by simp; omega)) (Subs.refl _) ?_
    rintro _ _ ⟨rfl, o1, hB1, rfl⟩
    (conv => whnf)
    have n1 := put_len [] (wordP o.Kind)
    have e1 := put_ne (l := []) (.inr fw)
    generalize hl1 : putP [] (wordP o.Kind) = l1 at *
    refine CK.mk ent139 (put_ok p 177 (.gp p 0) 1 l1 o.Id o1 A bld_writer (.inr rfl) (.inr rfl) hB1 (by simp at n1; omega)) (Subs.refl _) ?_
    rintro _ _ ⟨rfl, o2, hB2, rfl⟩
    (conv => whnf)
    have n2 := put_len l1 o.Id
    have e2 := put_ne (s := o.Id) (.inl e1)
    generalize hl2 : putP l1 o.Id = l2 at *
    refine BK.eq (fun hk => ?_) (fun hk => ?_) <;> (conv => whnf)
    · obtain ⟨g1, g2, g3, g4⟩ := F.on hk
      have i1 := Lib.itoa_length_le o.At.X (by omega) (by omega)
      have i2 := Lib.itoa_length_le o.At.Y (by omega) (by omega)
      refine CK.pure ent57 (itoa_ok o.At.X (by omega) (by omega)) (Subs.refl _) ?_
      (conv => whnf)
      refine CK.mk ent139 (put_ok p 177 (.gp p 0) 1 l2 (Lib.itoa o.At.X) o2 A bld_writer (.inr rfl) (.inr rfl) hB2 (by simp at n1; omega)) (Subs.refl _) ?_
      rintro _ _ ⟨rfl, o3, hB3, rfl⟩
      (conv => whnf)
      have n3 := put_len l2 (Lib.itoa o.At.X)
      have e3 := put_ne (s := Lib.itoa o.At.X) (.inl e2)
      generalize hl3 : putP l2 (Lib.itoa o.At.X) = l3 at *
      refine CK.pure ent57 (itoa_ok o.At.Y (by omega) (by omega)) (Subs.refl _) ?_
      (conv => whnf)
      refine CK.mk ent139 (put_ok p 177 (.gp p 0) 1 l3 (Lib.itoa o.At.Y) o3 A bld_writer (.inr rfl) (.inr rfl) hB3 (by simp at n1; omega)) (Subs.refl _) ?_
      rintro _ _ ⟨rfl, o4, hB4, rfl⟩
      (conv => whnf)
      have n4 := put_len l3 (Lib.itoa o.At.Y)
      have e4 := put_ne (s := Lib.itoa o.At.Y) (.inl e3)
      have hb : objBody o = putP l3 (Lib.itoa o.At.Y) := by unfold objBody; rw [if_pos hk, hl1, hl2, hl3]
      have hbl : (putP l3 (Lib.itoa o.At.Y)).length ≤ 100000 := by simp at n1; omega
      generalize putP l3 (Lib.itoa o.At.Y) = l4 at *
      clear hl1 hl2 n1 n2 n4
      refine BK.mk (fun ht => ?_) (fun ht => ?_) <;> (conv => whnf)
      · refine CK.pure ent141 (tagText_ok o.Tags ho.tags ho.tag) (Subs.refl _) ?_
        (conv => whnf)
        have hT : objText o = match (tagText o.Tags).2 != 0 with | true => ([], (tagText o.Tags).2) | false => objCut (putP (objBody o) (tagText o.Tags).1) := by
          unfold objText; rw [hv, ht]
        have htl := tagText_len o.Tags
        refine BK.mk (fun hn => ?_) (fun hn => ?_) <;> (conv => whnf)
        · exact FK.weak (Sub.eq (by rw [hT, hn]; rfl)) (bl_le hp hB4.fresh)
        refine CK.mk ent139 (put_ok p 177 (.gp p 0) 1 l4 (tagText o.Tags).1 o4 A bld_writer (.inr rfl) (.inr rfl) hB4 (by omega)) (Subs.refl _) ?_
        rintro _ _ ⟨rfl, o5, hB5, rfl⟩
        (conv => whnf)
        have e5 := put_ne (s := (tagText o.Tags).1) (.inl e4)
        have hc : objText o = objCut (putP l4 (tagText o.Tags).1) := by rw [hT, hn, hb]
        have n5 := put_len l4 (tagText o.Tags).1
        have n6 : (putP l4 (tagText o.Tags).1).length ≤ 1000000 := by omega
        generalize putP l4 (tagText o.Tags).1 = l5 at *
        refine CK.mk ent98 (bl_len p 177 (.gp p 0) 1 l5 o5 A) (Subs.refl _) ?_
        rintro _ _ ⟨rfl, rfl⟩
        (conv => whnf)
        refine BK.mk (fun hz => ?_) (fun hz => ?_) <;> (conv => whnf)
        · exact FK.weak (Sub.eq (by rw [hc]; unfold objCut; rw [hz]; rfl)) (bl_le hp hB5.fresh)
        obtain ⟨b, rfl⟩ : ∃ b, o5 = some b := by
          cases o5 with
          | none => exact absurd (hB5.nil rfl) e5
          | some b => exact ⟨b, rfl⟩
        refine CK.mk ent59 (string_ok p b 177 (.gp p 0) l5 A e5 (hB5.ne b rfl) (by omega)) (Subs.refl _) ?_
        rintro _ _ ⟨rfl, rfl⟩
        (conv => whnf)
        exact FK.weak (Sub.eq (by rw [hc]; unfold objCut; rw [hz]; rfl)) (bl_le hp hB5.fresh)
      · obtain ⟨o5, eo⟩ : ∃ o5, o5 = o4 := ⟨_, rfl⟩
        rw [← eo] at hB4 ⊢
        have hB5 := hB4
        have hc : objText o = objCut l4 := by unfold objText; rw [hv, ht, hb]
        have n6 : l4.length ≤ 1000000 := by omega
        have e5 := e4
        generalize l4 = l5 at *
        refine CK.mk ent98 (bl_len p 177 (.gp p 0) 1 l5 o5 A) (Subs.refl _) ?_
        rintro _ _ ⟨rfl, rfl⟩
        (conv => whnf)
        refine BK.mk (fun hz => ?_) (fun hz => ?_) <;> (conv => whnf)
        · exact FK.weak (Sub.eq (by rw [hc]; unfold objCut; rw [hz]; rfl)) (bl_le hp hB5.fresh)
        obtain ⟨b, rfl⟩ : ∃ b, o5 = some b := by
          cases o5 with
          | none => exact absurd (hB5.nil rfl) e5
          | some b => exact ⟨b, rfl⟩
        refine CK.mk ent59 (string_ok p b 177 (.gp p 0) l5 A e5 (hB5.ne b rfl) (by omega)) (Subs.refl _) ?_
        rintro _ _ ⟨rfl, rfl⟩
        (conv => whnf)
        exact FK.weak (Sub.eq (by rw [hc]; unfold objCut; rw [hz]; rfl)) (bl_le hp hB5.fresh)
    · have ej := join_le o.Refs 32 24 F.ref
      have hr := F.refs
      have ej2 : (Lib.join o.Refs [32]).length ≤ 50000 := Nat.le_trans ej (by omega)
      refine CK.pure ent122 (join_ok o.Refs [32] (by omega) (by omega)) (Subs.refl _) ?_
      (conv => whnf)
      refine NK.mk (by show 1 + _ ≤ _; omega) ?_
      (conv => whnf)
      refine NK.mk (by rw [List.length_append]; show 1 + _ + 1 ≤ _; omega) ?_
      (conv => whnf)
      have es : ((([40] : Str) ++ Lib.join o.Refs [32]) ++ [41]).length ≤ 50002 := by
        rw [List.length_append, List.length_append]; show 1 + _ + 1 ≤ _; omega
      refine CK.mk ent139 (put_ok p 177 (.gp p 0) 1 l2 (([40] ++ Lib.join o.Refs [32]) ++ [41]) o2 A bld_writer (.inr rfl) (.inr rfl) hB2 (by simp at n1; omega)) (Subs.refl _) ?_
      rintro _ _ ⟨rfl, o4, hB4, rfl⟩
      (conv => whnf)
      have n4 := put_len l2 (([40] ++ Lib.join o.Refs [32]) ++ [41])
      have e4 := put_ne (s := ([40] ++ Lib.join o.Refs [32]) ++ [41]) (.inl e2)
      have hb : objBody o = putP l2 (([40] ++ Lib.join o.Refs [32]) ++ [41]) := by unfold objBody; rw [if_neg hk, hl1, hl2]
      have hbl : (putP l2 (([40] ++ Lib.join o.Refs [32]) ++ [41])).length ≤ 100000 := by simp at n1; omega
      generalize putP l2 (([40] ++ Lib.join o.Refs [32]) ++ [41]) = l4 at *
      clear hl1 hl2 n1 n2 n4
      refine BK.mk (fun ht => ?_) (fun ht => ?_) <;> (conv => whnf)
      · refine CK.pure ent141 (tagText_ok o.Tags ho.tags ho.tag) (Subs.refl _) ?_
        (conv => whnf)
        have hT : objText o = match (tagText o.Tags).2 != 0 with | true => ([], (tagText o.Tags).2) | false => objCut (putP (objBody o) (tagText o.Tags).1) := by
          unfold objText; rw [hv, ht]
        have htl := tagText_len o.Tags
        refine BK.mk (fun hn => ?_) (fun hn => ?_) <;> (conv => whnf)
        · exact FK.weak (Sub.eq (by rw [hT, hn]; rfl)) (bl_le hp hB4.fresh)
        refine CK.mk ent139 (put_ok p 177 (.gp p 0) 1 l4 (tagText o.Tags).1 o4 A bld_writer (.inr rfl) (.inr rfl) hB4 (by omega)) (Subs.refl _) ?_
        rintro _ _ ⟨rfl, o5, hB5, rfl⟩
        (conv => whnf)
        have e5 := put_ne (s := (tagText o.Tags).1) (.inl e4)
        have hc : objText o = objCut (putP l4 (tagText o.Tags).1) := by rw [hT, hn, hb]
        have n5 := put_len l4 (tagText o.Tags).1
        have n6 : (putP l4 (tagText o.Tags).1).length ≤ 1000000 := by omega
        generalize putP l4 (tagText o.Tags).1 = l5 at *
        refine CK.mk ent98 (bl_len p 177 (.gp p 0) 1 l5 o5 A) (Subs.refl _) ?_
        rintro _ _ ⟨rfl, rfl⟩
        (conv => whnf)
        refine BK.mk (fun hz => ?_) (fun hz => ?_) <;> (conv => whnf)
        · exact FK.weak (Sub.eq (by rw [hc]; unfold objCut; rw [hz]; rfl)) (bl_le hp hB5.fresh)
        obtain ⟨b, rfl⟩ : ∃ b, o5 = some b := by
          cases o5 with
          | none => exact absurd (hB5.nil rfl) e5
          | some b => exact ⟨b, rfl⟩
        refine CK.mk ent59 (string_ok p b 177 (.gp p 0) l5 A e5 (hB5.ne b rfl) (by omega)) (Subs.refl _) ?_
        rintro _ _ ⟨rfl, rfl⟩
        (conv => whnf)
        exact FK.weak (Sub.eq (by rw [hc]; unfold objCut; rw [hz]; rfl)) (bl_le hp hB5.fresh)
      · obtain ⟨o5, eo⟩ : ∃ o5, o5 = o4 := ⟨_, rfl⟩
        rw [← eo] at hB4 ⊢
        have hB5 := hB4
        have hc : objText o = objCut l4 := by unfold objText; rw [hv, ht, hb]
        have n6 : l4.length ≤ 1000000 := by omega
        have e5 := e4
        generalize l4 = l5 at *
        refine CK.mk ent98 (bl_len p 177 (.gp p 0) 1 l5 o5 A) (Subs.refl _) ?_
        rintro _ _ ⟨rfl, rfl⟩
        (conv => whnf)
        refine BK.mk (fun hz => ?_) (fun hz => ?_) <;> (conv => whnf)
        · exact FK.weak (Sub.eq (by rw [hc]; unfold objCut; rw [hz]; rfl)) (bl_le hp hB5.fresh)
        obtain ⟨b, rfl⟩ : ∃ b, o5 = some b := by
          cases o5 with
          | none => exact absurd (hB5.nil rfl) e5
          | some b => exact ⟨b, rfl⟩
        refine CK.mk ent59 (string_ok p b 177 (.gp p 0) l5 A e5 (hB5.ne b rfl) (by omega)) (Subs.refl _) ?_
        rintro _ _ ⟨rfl, rfl⟩
        (conv => whnf)
        exact FK.weak (Sub.eq (by rw [hc]; unfold objCut; rw [hz]; rfl)) (bl_le hp hB5.fresh)
  · exact FK.eq (by unfold objText; rw [hv]; rfl)
end Ab
end Go.Proofs.YtpmigkbcldffeaaGreatDoor
