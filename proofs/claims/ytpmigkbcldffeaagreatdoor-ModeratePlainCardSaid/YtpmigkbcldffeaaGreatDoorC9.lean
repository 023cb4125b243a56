/- digest.mix, digits, Sum. -/
import Derived.Test.YtpmigkbcldffeaaGreatDoorC8
import Derived.Laws.Bits64b
set_option linter.unusedVariables false
set_option linter.unusedSimpArgs false
set_option linter.unusedSectionVars false
namespace Go.Proofs.YtpmigkbcldffeaaGreatDoor
namespace Ab
open Go.RowKit Go.Shelf Go.Lib
set_option maxRecDepth 10000
theorem xorN {a b : Nat} (ha : a < 18446744073709551616) (hb : b < 18446744073709551616) : bitI .xor .u64 (a : Int) (b : Int) = ((a ^^^ b : Nat) : Int) := by
  have hx : a ^^^ b < 2 ^ 64 := Nat.xor_lt_two_pow (by omega) (by omega)
  have h1 : (BitVec.ofInt 64 (a : Int)).toNat = a := by
    rw [BitVec.ofInt_natCast, BitVec.toNat_ofNat]; exact Nat.mod_eq_of_lt (by omega)
  have h2 : (BitVec.ofInt 64 (b : Int)).toNat = b := by
    rw [BitVec.ofInt_natCast, BitVec.toNat_ofNat]; exact Nat.mod_eq_of_lt (by omega)
  unfold bitI
  show IntKind.u64.wrap ((BitVec.ofInt 64 (a : Int) ^^^ BitVec.ofInt 64 (b : Int)).toNat : Int) = _
  rw [BitVec.toNat_xor, h1, h2, IntKind.wrap_u64]
  omega
theorem orN {a b : Nat} (ha : a < 18446744073709551616) (hb : b < 18446744073709551616) : bitI .or .u64 (a : Int) (b : Int) = ((a ||| b : Nat) : Int) := by
  unfold bitI; exact bits_or_u64_nat a b ha hb
theorem andN {a b : Nat} (ha : a < 18446744073709551616) (hb : b < 18446744073709551616) : bitI .and .u64 (a : Int) (b : Int) = ((a &&& b : Nat) : Int) := by
  unfold bitI; exact bits_and_u64_nat a b ha hb
theorem shrN (a : Nat) {n : Nat} (hn : n ≤ 64) : shrI .u64 (a : Int) (n : Int) = ((a / 2 ^ n : Nat) : Int) := by
  unfold shrI
  show (a : Int).fdiv (2 ^ min (n : Int).toNat 64) = _
  rw [show min (n : Int).toNat 64 = n by omega, Int.fdiv_eq_ediv_of_nonneg _ (by exact Int.le_of_lt (Int.pow_pos (by decide)))]
  push_cast
  rfl
theorem shlN (a : Nat) {n : Nat} (hn : n ≤ 64) : shlI .u64 (a : Int) (n : Int) = ((a * 2 ^ n % 18446744073709551616 : Nat) : Int) := by
  unfold shlI
  show IntKind.u64.wrap ((a : Int) * 2 ^ min (n : Int).toNat 64) = _
  have hm : ((2 ^ n : Nat) : Int) = (2 : Int) ^ n := by simp
  rw [show min (n : Int).toNat 64 = n by omega, IntKind.wrap_u64, ← hm, ← Int.natCast_mul]
  generalize a * 2 ^ n = t
  omega
def mixA (y : Nat) : Nat := y ^^^ (y / 2 ^ 32)
def mixB (z : Nat) : Nat := z ^^^ (z / 2 ^ 29)
def mixN (x : Nat) : Nat := mixB (mixA (x * 2862933555777941757 % 18446744073709551616) * 3935559000370003845 % 18446744073709551616)
theorem mixN_lt (x : Nat) : mixN x < 18446744073709551616 := by
  unfold mixN mixB
  have h : ∀ z, z < 2 ^ 64 → z ^^^ (z / 2 ^ 29) < 2 ^ 64 := fun z hz => Nat.xor_lt_two_pow hz (Nat.lt_of_le_of_lt (Nat.div_le_self _ _) hz)
  exact h _ (Nat.mod_lt _ (by decide))
theorem mul64_ok (x y : Nat) (hx : x < 18446744073709551616) (hy : y < 18446744073709551616) :
    PSpec Tryz.prog 81 [.int .u64 (x : Int), .int .u64 (y : Int)] (.tup [.int .u64 ((x * y / 18446744073709551616 : Nat) : Int), .int .u64 ((x * y % 18446744073709551616 : Nat) : Int)]) := by
  refine .lib fun A g w Vs hI hC hV => ?_
  obtain ⟨V, W, rfl, h1, h2⟩ := vl2 hV
  rw [vr_int h1, vr_int h2]
  refine (Tryz.bits_Mul64 x y hx hy w).mono ?_
  rintro e w' ⟨rfl, rfl⟩
  exact ⟨_, rfl, VR.mk_tup (VL.cons (.int _ _) (VL.cons (.int _ _) (VL.nil g))), Below.refl _ _⟩
theorem xor_lt {a b : Nat} (ha : a < 18446744073709551616) (hb : b < 18446744073709551616) : a ^^^ b < 18446744073709551616 := Nat.xor_lt_two_pow (n := 64) ha hb
theorem mix_ok (x : Nat) (hx : x < 18446744073709551616) : PSpec Tryz.prog 53 [.int .u64 (x : Int)] (.int .u64 (mixN x : Int)) := by
  obtain ⟨y, hy⟩ : ∃ y, y = x * 2862933555777941757 % 18446744073709551616 := ⟨_, rfl⟩
  have hy1 : y < 18446744073709551616 := by rw [hy]; exact Nat.mod_lt _ (by decide)
  have hy2 : y / 2 ^ 32 < 18446744073709551616 := Nat.lt_of_le_of_lt (Nat.div_le_self _ _) hy1
  obtain ⟨z, hz⟩ : ∃ z, z = (y ^^^ (y / 2 ^ 32)) * 3935559000370003845 % 18446744073709551616 := ⟨_, rfl⟩
  have hz1 : z < 18446744073709551616 := by rw [hz]; exact Nat.mod_lt _ (by decide)
  have hz2 : z / 2 ^ 29 < 18446744073709551616 := Nat.lt_of_le_of_lt (Nat.div_le_self _ _) hz1
  have hm : mixN x = z ^^^ (z / 2 ^ 29) := by unfold mixN mixB mixA; rw [← hy, ← hz]
  refine PSpec.by Tryz.func53 rfl Tryz.ntmps53 [] rfl fun A => ?_
  (conv => whnf)
  refine CK.pure ent81 (mul64_ok x 2862933555777941757 hx (by decide)) (Subs.refl _) ?_
  rw [← hy]
  (conv => whnf)
  refine NK.mk (by decide) ?_
  (conv => whnf)
  refine CK.pure ent81 (mul64_ok (y ^^^ (y / 2 ^ 32)) 3935559000370003845 (xor_lt hy1 hy2) (by decide)) (Subs.cons (Sub.eq ?_) (Subs.refl _)) ?_
  · have := shrN y (n := 32) (by omega)
    rw [← xorN hy1 hy2, ← this]; rfl
  rw [← hz]
  (conv => whnf)
  refine NK.mk (by decide) ?_
  (conv => whnf)
  refine FK.eq ?_
  have := shrN z (n := 29) (by omega)
  rw [hm, ← xorN hz1 hz2, ← this]; rfl
/-- The digits. -/
def digN (i : Nat) : Nat := if i < 10 then 48 + i else 87 + i
def digT : List AV := rowF 16 fun i => .int .u8 (digN i : Int)
theorem dig_done {k : Nat} (h10 : k < 10) : ∀ i, i < 16 → AV.int .u8 (if i < k + 1 then (digN i : Int) else 0) = if i = (k : Int).toNat then AV.int .u8 (48 + (k : Int)) else AV.int .u8 (if i < k then (digN i : Int) else 0) := by
  intro i _
  by_cases e : i = k
  · subst e; simp [digN, h10]
  · have e1 : (i < k + 1) = (i < k) := by simp; omega
    have e2 : ¬ i = (k : Int).toNat := by omega
    simp only [e1, e2, if_false]
theorem dig_done2 {k : Nat} (h10 : ¬ k < 10) : ∀ i, i < 16 → AV.int .u8 (if i < k + 1 then (digN i : Int) else 0) = if i = (k : Int).toNat then AV.int .u8 (97 + (k : Int) - 10) else (if i = (k : Int).toNat then AV.int .u8 (48 + (k : Int)) else AV.int .u8 (if i < k then (digN i : Int) else 0)) := by
  intro i _
  by_cases e : i = k
  · subst e; simp [digN, h10]; omega
  · have e1 : (i < k + 1) = (i < k) := by simp; omega
    have e2 : ¬ i = (k : Int).toNat := by omega
    simp only [e1, e2, if_false]
set_option maxHeartbeats 1000000 in
theorem digits_ok : PSpec Tryz.prog 54 [] (.agg digT) := by
  refine PSpec.by Tryz.func54 rfl Tryz.ntmps54 [] rfl fun A => ?_
  (conv => whnf)
  refine LK.mk (ι := {k : Nat // k ≤ 16}) (fun k => [(0, .lp 0 0), (1, .lp 1 0), (3, .v (.int .i64 k.1))]) (fun k => [rowF 16 (fun _ => .int .u8 0), rowF 16 fun i => .int .u8 (if i < k.1 then (digN i : Int) else 0)]) (fun _ => A) (fun k => 16 - k.1) ⟨0, by simp⟩ ?_ ?_
  · refine ⟨⟨⟨rfl, rfl, Nat.le_of_ble_eq_true rfl⟩, ⟨rfl, rfl, Nat.le_of_ble_eq_true rfl⟩, Sub.refl _, trivial⟩, ⟨Subs.eq ?_, Subs.eq ?_, trivial⟩, AO.le.refl _⟩
    · unfold rowF; kernel_rfl
    · unfold rowF; simp only [Nat.not_lt_zero, if_false]; kernel_rfl
  rintro ⟨k, hk⟩
  have done : ∀ {tm : TM} {row : List AV}, look tm 0 = some (.lp 0 0) → look tm 1 = some (.lp 1 0) → look tm 3 = some (.v (.int .i64 ((k : Int) + 1))) → (hk' : k < 16) → row = (rowF 16 fun i => .int .u8 (if i < k + 1 then (digN i : Int) else 0)) →
      ∃ j : {k : Nat // k ≤ 16}, Le tm [rowF 16 (fun _ => .int .u8 0), row] A [(0, .lp 0 0), (1, .lp 1 0), (3, .v (.int .i64 j.1))] [rowF 16 (fun _ => .int .u8 0), rowF 16 fun i => .int .u8 (if i < j.1 then (digN i : Int) else 0)] A ∧ 16 - j.1 < 16 - k := by
    intro tm row h0 h1 h4 hk' hr
    refine ⟨⟨k + 1, hk'⟩, ⟨⟨?_, ?_, ?_, trivial⟩, ⟨Subs.refl _, Subs.eq hr, trivial⟩, AO.le.refl _⟩, by simp; omega⟩
    · rw [h0]; exact ⟨rfl, rfl, Nat.le_of_ble_eq_true rfl⟩
    · rw [h1]; exact ⟨rfl, rfl, Nat.le_of_ble_eq_true rfl⟩
    · rw [h4]; exact Sub.refl _
  (conv => whnf)
  refine BK.dec (fun h => ?_) (fun h => ?_) <;> (conv => whnf)
  · have hk' : k < 16 := by have : (k : Int) < 16 := h; omega
    have hk2 : (k : Int).toNat < 16 := by omega
    have hn : 0 ≤ (k : Int) ∧ (k : Int) < 16 := by omega
    refine IK.in64 (by omega) (by omega) ?_
    (conv => whnf)
    refine IK.is (wrap_u8 (n := 48 + (k : Int)) (by omega) (by omega)) ?_
    (conv => whnf)
    refine NK.mk hn ?_
    (conv => whnf)
    rw [st_r1 (by decide)]
    (conv => whnf)
    rw [st_r2 hk2]
    (conv => whnf)
    refine BK.dec (fun h => ?_) (fun h => ?_) <;> (conv => whnf)
    · have hk10 : ¬ k < 10 := by have : (k : Int) ≥ 10 := h; omega
      refine IK.in64 (by omega) (by omega) ?_
      (conv => whnf)
      refine IK.in64 (by omega) (by omega) ?_
      (conv => whnf)
      refine IK.is (wrap_u8 (n := 97 + (k : Int) - 10) (by omega) (by omega)) ?_
      (conv => whnf)
      refine NK.mk hn ?_
      (conv => whnf)
      rw [show splice (rowF 16 fun i => AV.int .u8 (if i < k then (digN i : Int) else 0)) (0 + (k : Int).toNat * ty5.size) (AV.int .u8 (48 + (k : Int))).cells = rowF 16 (fun i => if i = (k : Int).toNat then AV.int .u8 (48 + (k : Int)) else AV.int .u8 (if i < k then (digN i : Int) else 0)) from st_r3 hk2 (fun i _ => rfl)]
      (conv => whnf)
      rw [st_r1 (by decide)]
      (conv => whnf)
      rw [st_r2 hk2]
      (conv => whnf)
      refine IK.in64 (by omega) (by omega) ?_
      (conv => whnf)
      refine done rfl rfl rfl hk' ?_
      exact st_r3 hk2 (dig_done2 hk10)
    · have hk10 : k < 10 := by have : ¬ (k : Int) ≥ 10 := h; omega
      refine IK.in64 (by omega) (by omega) ?_
      (conv => whnf)
      refine done rfl rfl rfl hk' ?_
      exact st_r3 hk2 (dig_done hk10)
  · have hk' : k = 16 := by have : ¬ (k : Int) < 16 := h; omega
    subst hk'
    have e : (rowF 16 fun i => AV.int .u8 (if i < (⟨16, hk⟩ : {k : Nat // k ≤ 16}).1 then (digN i : Int) else 0)) = digT := rowF_congr fun i hi => by simp [hi]
    rw [e]
    (conv => whnf)
    rw [show digT.length = 16 from rowF_len _ _]
    (conv => whnf)
    rw [show (AV.agg digT).cells.length = 16 from rowF_len _ _]
    (conv => whnf)
    rw [rowF_len]
    (conv => whnf)
    rw [show (AV.agg digT).cells.length = 16 from rowF_len _ _]
    (conv => whnf)
    exact FK.eq rfl
/-- The number of eight bytes. -/
def blkN (s : Str) : Nat → Nat
  | 0 => 0
  | k + 1 => blkN s k * 256 + (s.getD k 0).toNat
theorem blk_lt (s : Str) : ∀ k, blkN s k < 256 ^ k
  | 0 => by simp [blkN]
  | k + 1 => by
    have h1 := blk_lt s k
    have h2 := (s.getD k 0).toNat_lt
    unfold blkN
    rw [Nat.pow_succ]
    omega
theorem blk_lt7 (s : Str) {k : Nat} (hk : k ≤ 7) : blkN s k < 72057594037927936 := Nat.lt_of_lt_of_le (blk_lt s k) (Nat.le_trans (Nat.pow_le_pow_right (by decide) hk) (by decide))
theorem blk_lt8 (s : Str) {k : Nat} (hk : k ≤ 8) : blkN s k < 18446744073709551616 := Nat.lt_of_lt_of_le (blk_lt s k) (Nat.le_trans (Nat.pow_le_pow_right (by decide) hk) (by decide))
theorem or_add {a b : Nat} (h : b < 256) : a * 256 ||| b = a * 256 + b := by
  have := Nat.shiftLeft_add_eq_or_of_lt (i := 8) (b := b) (by omega) a
  rw [Nat.shiftLeft_eq] at this
  exact this.symm
theorem blk_next (s : Str) {k : Nat} (hk : k < 8) : bitI .or .u64 (shlI .u64 (blkN s k : Int) 8) ((s.getD k 0).toNat : Int) = (blkN s (k + 1) : Int) := by
  have h1 := blk_lt7 s (k := k) (by omega)
  have h2 := (s.getD k 0).toNat_lt
  have e := shlN (blkN s k) (n := 8) (by omega)
  rw [show ((8 : Nat) : Int) = 8 from rfl, Nat.mod_eq_of_lt (by omega)] at e
  rw [e, orN (by omega) (by omega), show (2 : Nat) ^ 8 = 256 from rfl, or_add (by omega)]
  rfl
def rowP (s : Str) : List AV := rowF 8 fun i => .int .u8 ((s.getD i 0).toNat : Int)
theorem splice_pad (s : Str) : splice (rep 8 [AV.int .u8 0]) 0 ((s.take 8).map fun c => AV.int .u8 (c.toNat : Int)) = rowP s := by
  unfold rowP rowF
  match s with
  | [] => rfl
  | [a] => rfl
  | [a, b] => rfl
  | [a, b, c] => rfl
  | [a, b, c, d] => rfl
  | [a, b, c, d, e] => rfl
  | [a, b, c, d, e, f] => rfl
  | [a, b, c, d, e, f, g] => rfl
  | a :: b :: c :: d :: e :: f :: g :: h :: r => rfl
theorem blk_take (s : Str) : ∀ k, k ≤ 8 → blkN (s.take 8) k = blkN s k
  | 0, _ => rfl
  | k + 1, h => by
    unfold blkN
    rw [blk_take s k (by omega)]
    congr 2
    simp only [List.getD_eq_getElem?_getD, List.getElem?_take]
    rw [if_pos (by omega)]
theorem wrap_u64' {n : Int} (h1 : 0 ≤ n) (h2 : n < 18446744073709551616) : IntKind.u64.wrap n = n := by rw [IntKind.wrap_u64]; omega
theorem getRow {A : AO} {p : Nat} {cs ds : List AV} (h : A.rows p = some cs) (e : cs = ds) : A.rows p = some ds := e ▸ h
set_option maxHeartbeats 1000000 in
theorem take_ok (s : Str) (p st : Nat) (A : AO) (hst : st < 18446744073709551616) (hA : A.rows p = some [.int .u64 (st : Int)]) :
    ASpec Tryz.prog 52 [.str s, .gp p 0] A (fun v B => v = .tup [] ∧ B = A.setRow p [.int .u64 (mixN (st ^^^ blkN s 8) : Int)]) := by
  refine ASpec.by Tryz.func52 rfl Tryz.ntmps52 [] rfl ?_
  (conv => whnf)
  refine NK.mk (by decide) ?_
  (conv => whnf)
  refine NK.mk (by decide) ?_
  (conv => whnf)
  refine LK.mk (ι := {k : Nat // k ≤ 8}) (fun k => [(1, .v (.gp p 0)), (3, .lp 0 0), (4, .v (.int .u64 (blkN s k.1 : Int))), (9, .v (.int .i64 k.1))]) (fun k => [rowP s]) (fun _ => A) (fun k => 8 - k.1) ⟨0, by simp⟩ ?_ ?_
  · exact ⟨⟨Sub.refl _, ⟨rfl, rfl, Nat.le_of_ble_eq_true rfl⟩, Sub.refl _, Sub.refl _, trivial⟩, ⟨Subs.eq (splice_pad s), trivial⟩, AO.le.refl _⟩
  rintro ⟨k, hk⟩
  (conv => whnf)
  refine BK.dec (fun h => ?_) (fun h => ?_) <;> (conv => whnf)
  · have hk' : k < 8 := by have : (k : Int) < 8 := h; omega
    have hk2 : (k : Int).toNat < 8 := by omega
    have hb := (s.getD k 0).toNat_lt
    refine NK.mk (by decide) ?_
    (conv => whnf)
    refine NK.mk (by omega) ?_
    (conv => whnf)
    rw [show nth (rowP s) (0 + (k : Int).toNat * ty5.size) = some (.int .u8 ((s.getD k 0).toNat : Int)) from by unfold rowP; rw [ld_r hk2]; simp]
    (conv => whnf)
    refine IK.is (wrap_u64' (n := ((s.getD k 0).toNat : Int)) (by omega) (by omega)) ?_
    (conv => whnf)
    refine IK.in64 (by omega) (by omega) ?_
    (conv => whnf)
    exact ⟨⟨k + 1, hk'⟩, ⟨⟨Sub.refl _, ⟨rfl, rfl, Nat.le_of_ble_eq_true rfl⟩, Sub.eq (congrArg (AV.int .u64) (blk_next s hk')), Sub.refl _, trivial⟩, ⟨Subs.refl _, trivial⟩, AO.le.refl _⟩, by simp; omega⟩
  · have hk' : k = 8 := by have : ¬ (k : Int) < 8 := h; omega
    subst hk'
    have hb := blk_lt8 s (k := 8) (by omega)
    refine GK.mk _ hA ?_
    (conv => whnf)
    refine CK.pure ent53 (mix_ok (st ^^^ blkN s 8) (xor_lt hst hb)) (Subs.cons (Sub.eq (congrArg (AV.int .u64) (xorN hst hb))) (Subs.refl _)) ?_
    (conv => whnf)
    refine GK.mk _ hA ?_
    (conv => whnf)
    exact FK.mk (Sub.refl _) (AO.le.refl _) ⟨rfl, rfl⟩
/-- The state behind a text. -/
def chunkN : Nat → Nat → Str → Nat
  | 0, st, s => mixN (st ^^^ blkN s 8)
  | f + 1, st, s => if 8 ≤ s.length then chunkN f (mixN (st ^^^ blkN s 8)) (s.drop 8) else mixN (st ^^^ blkN s 8)
theorem chunk_end {f st : Nat} {s : Str} (h : ¬ 8 ≤ s.length) : chunkN f st s = mixN (st ^^^ blkN s 8) := by
  cases f with
  | zero => rfl
  | succ f => unfold chunkN; rw [if_neg h]
theorem chunk_step {f st : Nat} {s : Str} (h : 8 ≤ s.length) (hf : s.length ≤ f) : ∃ g, g + 1 = f ∧ (s.drop 8).length ≤ g ∧ chunkN f st s = chunkN g (mixN (st ^^^ blkN s 8)) (s.drop 8) := by
  cases f with
  | zero => omega
  | succ f => exact ⟨f, rfl, by simp; omega, by rw [chunkN, if_pos h]⟩
def stateN (s : Str) : Nat := chunkN s.length (1181783497276652981 ^^^ s.length) s
theorem chunk_lt : ∀ (f st : Nat) (s : Str), chunkN f st s < 18446744073709551616
  | 0, st, s => mixN_lt _
  | f + 1, st, s => by
    unfold chunkN
    split
    · exact chunk_lt f _ _
    · exact mixN_lt _
def hexU (n : Nat) : UInt8 := UInt8.ofNat (digN n)
def hexAt (st i : Nat) : Nat := st / 2 ^ (60 - 4 * i) % 16
/-- The digest of a text. -/
def sumP (s : Str) : Str := (List.range 16).map fun i => hexU (hexAt (stateN s) i)
theorem sumP_len (s : Str) : (sumP s).length = 16 := by simp [sumP]
theorem digN_lt {n : Nat} (h : n < 16) : digN n < 256 := by unfold digN; split <;> omega
theorem hex_ok {n : Nat} (h : n < 16) : ((hexU n).toNat : Int) = (digN n : Int) := by
  have := digN_lt h
  unfold hexU
  rw [UInt8.toNat_ofNat']
  omega
theorem setRow_twice (A : AO) (p : Nat) (cs ds : List AV) : (A.setRow p cs).setRow p ds = A.setRow p ds := by
  unfold AO.setRow
  congr 1
  funext q
  by_cases e : q = p <;> simp [e]
theorem sum_idx (st i : Nat) (hi : i < 16) : bitI .and .u64 (shrI .u64 (st : Int) (60 - 4 * (i : Int))) 15 = (hexAt st i : Int) ∨ ¬ st < 18446744073709551616 := by
  by_cases hst : st < 18446744073709551616
  · left
    have e := shrN st (n := 60 - 4 * i) (by omega)
    rw [show ((60 - 4 * i : Nat) : Int) = 60 - 4 * (i : Int) by omega] at e
    have hl : st / 2 ^ (60 - 4 * i) < 18446744073709551616 := Nat.lt_of_le_of_lt (Nat.div_le_self _ _) hst
    rw [e]
    have := andN hl (b := 15) (by decide)
    rw [show ((15 : Nat) : Int) = 15 from rfl] at this
    rw [this, show st / 2 ^ (60 - 4 * i) &&& 15 = st / 2 ^ (60 - 4 * i) % 16 from Nat.and_two_pow_sub_one_eq_mod _ 4]
    rfl
  · right; exact hst
def outF (st k : Nat) : List AV := rowF 16 fun i => .int .u8 (if i < k then (digN (hexAt st i) : Int) else 0)
theorem out_step {st k : Nat} : ∀ i, i < 16 → AV.int .u8 (if i < k + 1 then (digN (hexAt st i) : Int) else 0) = if i = (k : Int).toNat then AV.int .u8 (digN (hexAt st k) : Int) else AV.int .u8 (if i < k then (digN (hexAt st i) : Int) else 0) := by
  intro i _
  by_cases e : i = k
  · subst e; simp
  · have e1 : (i < k + 1) = (i < k) := by simp; omega
    have e2 : ¬ i = (k : Int).toNat := by omega
    simp only [e1, e2, if_false]
theorem hexAt_lt (st i : Nat) : hexAt st i < 16 := Nat.mod_lt _ (by decide)
theorem out_bytes (s : Str) : chop 1 16 (outF (stateN s) 16) = bytesAV (sumP s) := by
  have e : outF (stateN s) 16 = (List.range 16).map fun i => AV.int .u8 ((hexU (hexAt (stateN s) i)).toNat : Int) := by
    unfold outF rowF
    exact List.map_congr_left fun i hi => by rw [if_pos (List.mem_range.1 hi), hex_ok (hexAt_lt _ _)]
  rw [e]
  unfold sumP bytesAV
  rfl
set_option maxHeartbeats 1000000 in
theorem sum_ok (s : Str) (hs : s.length < 1099511627776) : PSpec Tryz.prog 27 [.str s] (.str (sumP s)) := by
  refine PSpec.by Tryz.func27 rfl Tryz.ntmps27 [3] rfl fun A => ?_
  (conv => whnf)
  refine IK.is (wrap_u64' (n := (s.length : Int)) (by omega) (by omega)) ?_
  (conv => whnf)
  refine HK.mk fun p hp => ?_
  (conv => whnf)
  refine GK.mk _ setRow_at ?_
  (conv => whnf)
  have e0 : bitI .xor .u64 (1181783497276652981 : Int) (s.length : Int) = ((1181783497276652981 ^^^ s.length : Nat) : Int) := xorN (a := 1181783497276652981) (by decide) (by omega)
  have h0 : 1181783497276652981 ^^^ s.length < 18446744073709551616 := xor_lt (by decide) (by omega)
  refine LK.mk (ι := {x : Nat × Nat × Str // x.2.1 < 18446744073709551616 ∧ x.2.2.length ≤ x.1 ∧ x.2.2.length ≤ s.length ∧ chunkN x.1 x.2.1 x.2.2 = stateN s}) (fun x => [(0, .v (.str x.1.2.2)), (3, .v (.gp p 0)), (4, .v (.fn (.func 52) [] [.gp p 0]))]) (fun _ => []) (fun x => (A.setTy p 97).setRow p [.int .u64 (x.1.2.1 : Int)]) (fun x => x.1.2.2.length) ⟨(s.length, 1181783497276652981 ^^^ s.length, s), h0, Nat.le_refl _, Nat.le_refl _, rfl⟩ ?_ ?_
  · refine ⟨⟨Sub.refl _, Sub.refl _, Sub.refl _, trivial⟩, trivial, ?_⟩
    have := setRow_twice (A.setTy p 97) p [.int .u64 0] [.int .u64 ((1181783497276652981 ^^^ s.length : Nat) : Int)]
    rw [← e0] at this ⊢
    rw [← this]
    exact AO.le.refl _
  rintro ⟨⟨f, st, r⟩, hst, hrf, hrs, hch⟩
  dsimp only at hst hrf hrs hch
  (conv => whnf)
  refine BK.dec (fun h => ?_) (fun h => ?_) <;> (conv => whnf)
  · have h8 : 8 ≤ r.length := by have : (r.length : Int) ≥ 8 := h; omega
    obtain ⟨g, rfl, hg, hc2⟩ := chunk_step (st := st) h8 hrf
    refine NK.mk (by dsimp only; omega) ?_
    (conv => whnf)
    refine CK.mk ent52 (take_ok (r.take 8) p st ((A.setTy p 97).setRow p [.int .u64 (st : Int)]) hst setRow_at) (Subs.refl _) ?_
    rintro _ B ⟨rfl, hB⟩
    rw [setRow_twice, blk_take r 8 (by omega)] at hB
    subst hB
    (conv => whnf)
    refine NK.mk (by dsimp only; omega) ?_
    (conv => whnf)
    refine ⟨⟨(g, mixN (st ^^^ blkN r 8), r.drop 8), mixN_lt _, hg, by simp only [List.length_drop]; omega, by rw [← hc2]; exact hch⟩, ⟨⟨Sub.eq (congrArg AV.str ?_), Sub.refl _, Sub.refl _, trivial⟩, trivial, AO.le.refl _⟩, by simp only [List.length_drop]; omega⟩
    simp
  · have h8 : ¬ 8 ≤ r.length := by have : ¬ (r.length : Int) ≥ 8 := h; omega
    have hS : mixN (st ^^^ blkN r 8) = stateN s := by rw [← chunk_end (f := f) h8]; exact hch
    have hSl : stateN s < 18446744073709551616 := chunk_lt _ _ _
    refine CK.mk ent52 (take_ok r p st ((A.setTy p 97).setRow p [.int .u64 (st : Int)]) hst setRow_at) (Subs.refl _) ?_
    rintro _ B ⟨rfl, hB⟩
    rw [setRow_twice, hS] at hB
    subst hB
    (conv => whnf)
    refine CK.pure ent54 digits_ok (Subs.refl _) ?_
    (conv => whnf)
    rw [show (AV.agg digT).cells.length = 16 from rowF_len _ _]
    (conv => whnf)
    refine LK.mk (ι := {k : Nat // k ≤ 16}) (fun k => [(3, .v (.gp p 0)), (5, .lp 0 0), (6, .lp 1 0), (26, .v (.int .i64 k.1))]) (fun k => [digT, outF (stateN s) k.1]) (fun _ => (A.setTy p 97).setRow p [.int .u64 (stateN s : Int)]) (fun k => 16 - k.1) ⟨0, by simp⟩ ?_ ?_
    · refine ⟨⟨Sub.refl _, ⟨rfl, rfl, Nat.le_of_ble_eq_true rfl⟩, ⟨rfl, rfl, Nat.le_of_ble_eq_true rfl⟩, Sub.refl _, trivial⟩, ⟨Subs.refl _, Subs.eq ?_, trivial⟩, AO.le.refl _⟩
      unfold outF rowF; simp only [Nat.not_lt_zero, if_false]; kernel_rfl
    rintro ⟨k, hk⟩
    (conv => whnf)
    refine BK.dec (fun h => ?_) (fun h => ?_) <;> (conv => whnf)
    · have hk' : k < 16 := by have : (k : Int) < 16 := h; omega
      have hk2 : (k : Int).toNat < 16 := by omega
      have hd := hexAt_lt (stateN s) k
      have hi := (sum_idx (stateN s) k hk').resolve_right (fun n => n hSl)
      refine GK.mk _ setRow_at ?_
      (conv => whnf)
      refine IK.in64 (by omega) (by omega) ?_
      (conv => whnf)
      refine IK.in64 (by omega) (by omega) ?_
      (conv => whnf)
      refine NK.mk (by omega) ?_
      (conv => whnf)
      rw [hi]
      (conv => whnf)
      refine NK.mk (by omega) ?_
      (conv => whnf)
      rw [show nth digT (0 + (hexAt (stateN s) k : Int).toNat * ty5.size) = some (.int .u8 (digN (hexAt (stateN s) k) : Int)) from by unfold digT; rw [ld_r (by omega)]; simp]
      (conv => whnf)
      refine NK.mk (by omega) ?_
      (conv => whnf)
      unfold outF
      rw [st_r1 (by decide)]
      (conv => whnf)
      rw [st_r2 hk2]
      (conv => whnf)
      refine IK.in64 (by omega) (by omega) ?_
      (conv => whnf)
      exact ⟨⟨k + 1, hk'⟩, ⟨⟨Sub.refl _, ⟨rfl, rfl, Nat.le_of_ble_eq_true rfl⟩, ⟨rfl, rfl, Nat.le_of_ble_eq_true rfl⟩, Sub.refl _, trivial⟩, ⟨Subs.refl _, Subs.eq (st_r3 hk2 out_step), trivial⟩, AO.le.refl _⟩, by simp; omega⟩
    · have hk' : k = 16 := by have : ¬ (k : Int) < 16 := h; omega
      subst hk'
      refine NK.mk (by decide) ?_
      (conv => whnf)
      refine NK.mk (by show 0 + 16 ≤ (outF (stateN s) 16).length; unfold outF; rw [rowF_len]; decide) ?_
      (conv => whnf)
      refine YK.mk (sumP s) (out_bytes s) ?_
      (conv => whnf)
      exact FK.weak (Sub.refl _) (setRow_le hp)
end Ab
end Go.Proofs.YtpmigkbcldffeaaGreatDoor

/- fields.add. -/
namespace Go.Proofs.YtpmigkbcldffeaaGreatDoor
namespace Ab
open Go.RowKit Go.Shelf Go.Lib
set_option maxRecDepth 10000
/-- Less known memory will do for a call. -/
theorem ASpec.weak {P : Program} {f : FuncId} {args : List AV} {A A0 : AO} {Q : AV → AO → Prop} (h : ASpec P f args A0 Q) (k : A.le A0) : ASpec P f args A Q := fun g w Vs hi hc hv =>
  (h g w Vs (hi.weak k) ⟨hc.tab, fun b hb hm => hc.far b hb (k.mut hm)⟩ hv).mono fun _ _ ⟨v, A', g', V, e, q, r, hI, hS⟩ => ⟨v, A', g', V, e, q, r, hI,
    ⟨hS.le, hS.os, hS.tape, hS.output, hS.size, fun b hb hn => hS.block b hb (fun hm => hn (k.mut hm)), fun b hb => (hS.fresh b hb).imp (fun hm => k.mut hm) id, fun b o hb hn => hS.keepS b o hb (fun hm => hn (k.mut hm))⟩⟩
/-- More at once. -/
theorem ws_more {A A' : AO} {p sz : Nat} {l ss : List Str} {ob ob' : Option Nat} {T : TypeId} (hB : WI A p ob)
    (h : After (A.ws p sz l ob) ob ob' 1 (l.length + ss.length) T A') : (A'.setRow p [.os 1 ob' (l.length + ss.length) (rowsS (l ++ ss))]).le (A.ws p 1 (l ++ ss) ob') ∧ WI A p ob' := by
  have hl : (l ++ ss).length = l.length + ss.length := by simp
  have hrows := h.rows
  refine ⟨⟨fun q cs hq => ?_, fun q x hq => ?_, fun q x hq => ?_, fun q x hq => ?_⟩, ?_, ?_⟩
  · by_cases e : q = p
    · subst e
      rw [ws_rows] at hq
      injection hq with hq; subst hq
      exact ⟨_, setRow_at, by rw [hl]; exact Subs.refl _⟩
    · refine ⟨cs, ?_, Subs.refl _⟩
      have h1 : A.rows q = some cs := by
        have : (A.ws p 1 (l ++ ss) ob').rows q = A.rows q := by
          cases ob' <;> (show (if q = p then _ else A.rows q) = _; rw [if_neg e])
        rw [← this]; exact hq
      rw [setRow_row e, hrows]
      cases ob <;> (show (if q = p then _ else A.rows q) = _; rw [if_neg e]; exact h1)
  · have key : (((A.ws p sz l ob).kill ob).tok ob' 1 (l.length + ss.length)).toks q = some x := by
      cases ob' with
      | none =>
        have h1 : A.toks q = some x := hq
        cases ob with
        | none => exact h1
        | some b =>
          show (if q = b then none else if q = b then some (1, l.length) else A.toks q) = some x
          have : q ≠ b := fun e => hB.fresh b rfl (.inr (.inl (by rw [← e, h1]; simp)))
          rw [if_neg this, if_neg this]; exact h1
      | some b' =>
        have h1 : (if q = b' then some (1, (l ++ ss).length) else A.toks q) = some x := hq
        show (if q = b' then some (1, l.length + ss.length) else ((A.ws p sz l ob).kill ob).toks q) = some x
        by_cases e : q = b'
        · rw [if_pos e] at h1 ⊢; rw [← hl]; exact h1
        · rw [if_neg e] at h1 ⊢
          cases ob with
          | none => exact h1
          | some b =>
            show (if q = b then none else if q = b then some (1, l.length) else A.toks q) = some x
            have : q ≠ b := fun e => hB.fresh b rfl (.inr (.inl (by rw [← e, h1]; simp)))
            rw [if_neg this, if_neg this]; exact h1
    rcases h with ⟨_, rfl⟩ | ⟨_, _, _, rfl⟩ <;> exact key
  · rcases h with ⟨_, rfl⟩ | ⟨_, _, _, rfl⟩ <;> (cases ob <;> cases ob' <;> exact hq)
  · rcases h with ⟨rfl, rfl⟩ | ⟨p', rfl, hp', rfl⟩
    · cases ob' <;> exact hq
    · have h1 : A.tys q = some x := hq
      have h2 : ¬ A.mut p' := fun hm => hp' (ws_mut hm)
      have h3 := setTy_ne (e := T) h2 q x h1
      cases ob <;> exact h3
  · intro b hb
    rcases h.or with h' | ⟨q, h', hq⟩
    · exact hB.fresh b (h'.symm.trans hb)
    · rw [hb] at h'; injection h' with h'; subst h'
      exact fun hm => hq (ws_mut hm)
  · intro b hb
    rcases h.or with h' | ⟨q, h', hq⟩
    · exact hB.ne b (h'.symm.trans hb)
    · rw [hb] at h'; injection h' with h'; subst h'
      rintro rfl
      exact hq (.inl (by rw [ws_rows]; simp))
theorem ws_tok {A : AO} {p sz : Nat} {l : List Str} {ob : Option Nat} : ∀ b, ob = some b → (A.ws p sz l ob).toks b = some (1, l.length) := by
  rintro b rfl
  show (if b = b then some (1, l.length) else _) = some (1, l.length); simp
theorem setMap_at {A : AO} {m : Nat} {es : List (AV × AV)} : (A.setMap m es).maps m = some es := by show (if m = m then _ else _) = _; simp
/-- What is added to fields. -/
inductive FI where
  | num (n : Int)
  | str (s : Str)
  | bool (b : Bool)
  | strs (l : List Str)
def FI.av : FI → AV
  | .num n => .iface 3 (.int .i64 n)
  | .str s => .iface 9 (.str s)
  | .bool b => .iface 4 (.bool b)
  | .strs l => .iface 26 (Ab.strs l)
def FI.out : FI → List Str
  | .num n => [Lib.itoa n]
  | .str s => [s]
  | .bool b => [Lib.itoa (match b with | true => 1 | false => 0)]
  | .strs l => Lib.itoa l.length :: l
def FI.ok : FI → Prop
  | .num n => -9223372036854775808 ≤ n ∧ n ≤ 9223372036854775807
  | .strs l => l.length ≤ 1000000
  | _ => True
def FI.simple : FI → Bool
  | .num _ => true
  | .str _ => true
  | _ => false
def fis (l : List FI) : AV := .sl 1 l.length (l.map fun x => [x.av])
def outs (l : List FI) : List Str := l.flatMap FI.out
theorem outs_step {l : List FI} {k : Nat} (h : k < l.length) : outs (l.take (k + 1)) = outs (l.take k) ++ l[k].out := by
  unfold outs; rw [List.take_succ_eq_append_getElem h, List.flatMap_append]; simp
/-- A number is added. -/
def One (N p : Nat) : Prop := ∀ (n : Int) (sz : Nat) (fs : List Str) (ob : Option Nat) (A : AO), (-9223372036854775808 ≤ n ∧ n ≤ 9223372036854775807) → (fs = [] ∨ sz = 1) → WI A p ob → fs.length ≤ N →
  ASpec Tryz.prog 55 [.gp p 0, fis [.num n]] (A.ws p sz fs ob) (fun v B => v = .tup [] ∧ ∃ ob', WI A p ob' ∧ B = A.ws p 1 (fs ++ [Lib.itoa n]) ob')
theorem fis_one {x : AV} {y : FI} (h : y.av = x) : Sub (.os 1 none 1 [[x]]) (fis [y]) := by subst h; exact Sub.os_sl rfl
set_option maxHeartbeats 2000000 in
theorem addG (N p : Nat) (hN : N ≤ 20000000) (l : List FI) (H : (∀ x ∈ l, x.simple = true) ∨ One N p) (hok : ∀ x ∈ l, x.ok) (sz : Nat) (fs : List Str) (ob : Option Nat) (A : AO) (hne : l ≠ []) (hsz : fs = [] ∨ sz = 1) (hW : WI A p ob)
    (hlen : ∀ k, k ≤ l.length → (fs ++ outs (l.take k)).length ≤ N) (hl0 : l.length ≤ 1000000) :
    ASpec Tryz.prog 55 [.gp p 0, fis l] (A.ws p sz fs ob) (fun v B => v = .tup [] ∧ ∃ ob', WI A p ob' ∧ B = A.ws p 1 (fs ++ outs l) ob') := by
  refine ASpec.byE Tryz.func55 rfl Tryz.ntmps55 [] [] rfl ?_
  (conv => whnf)
  refine LK.mk (ι := {x : Option Nat × Nat // x.2 ≤ l.length ∧ WI A p x.1}) (fun x => [(0, .v (.gp p 0)), (14, .v (fis l)), (15, .v (.int .i64 l.length)), (16, .v (.int .i64 x.1.2))]) (fun _ => []) (fun x => A.ws p (if x.1.2 = 0 then sz else 1) (fs ++ outs (l.take x.1.2)) x.1.1) (fun x => l.length - x.1.2) ⟨(ob, 0), by simp, hW⟩ ?_ ?_
  · exact ⟨⟨Sub.refl _, Sub.refl _, Sub.refl _, Sub.refl _, trivial⟩, trivial, by simp [outs]; exact AO.le.refl _⟩
  rintro ⟨⟨ob, k⟩, hk, hW⟩
  have hlk := hlen k hk
  have hsk : fs ++ outs (l.take k) = [] ∨ (if k = 0 then sz else 1) = 1 := by
    by_cases e : k = 0
    · subst e; simpa [outs] using hsz
    · right; rw [if_neg e]
  (conv => whnf)
  refine BK.dec (fun h => ?_) (fun h => ?_) <;> (conv => whnf)
  · have hk' : k < l.length := by have : (k : Int) < l.length := h; omega
    have hl1 := hlen (k + 1) hk'
    have hstep := outs_step hk'
    have hH := H.imp (fun h => h _ (List.getElem_mem hk')) id
    have hO := hok _ (List.getElem_mem hk')
    have hget : (l.map fun x => [x.av])[k]? = some [l[k].av] := by simp [hk']
    have done : ∀ {tm : TM} {B : AO} {ob' : Option Nat}, look tm 0 = some (.v (.gp p 0)) → look tm 14 = some (.v (fis l)) → look tm 15 = some (.v (.int .i64 l.length)) → look tm 16 = some (.v (.int .i64 ((k : Int) + 1))) → WI A p ob' → B.le (A.ws p 1 (fs ++ outs (l.take k) ++ l[k].out) ob') →
        ∃ j : {x : Option Nat × Nat // x.2 ≤ l.length ∧ WI A p x.1}, Le tm [] B [(0, .v (.gp p 0)), (14, .v (fis l)), (15, .v (.int .i64 l.length)), (16, .v (.int .i64 j.1.2))] [] (A.ws p (if j.1.2 = 0 then sz else 1) (fs ++ outs (l.take j.1.2)) j.1.1) ∧ l.length - j.1.2 < l.length - k := by
      intro tm B ob' h0 h1 h2 h3 hw hB
      refine ⟨⟨(ob', k + 1), hk', hw⟩, ⟨⟨?_, ?_, ?_, ?_, trivial⟩, trivial, ?_⟩, by simp; omega⟩
      · rw [h0]; exact Sub.refl _
      · rw [h1]; exact Sub.refl _
      · rw [h2]; exact Sub.refl _
      · rw [h3]; exact Sub.refl _
      · rw [if_neg (Nat.succ_ne_zero k), hstep, ← List.append_assoc]; exact hB
    rw [hstep, ← List.append_assoc] at hl1
    clear hstep
    generalize l[k] = x at *
    generalize fs ++ outs (l.take k) = gs at *
    generalize (if k = 0 then sz else 1) = sz' at *
    refine RK.mk k _ rfl hget ?_
    cases x with
    | num n =>
      (conv => whnf)
      refine GK.mk _ ws_rows ?_
      (conv => whnf)
      refine PK.mk ent57 (itoa_ok n hO.1 hO.2) (Subs.refl _) ?_
      (conv => whnf)
      repeat' ((first | (refine BK.dec (fun h => ?_) (fun h => ?_)) | (refine BK.ne (fun h => ?_) (fun h => ?_)) | (refine BK.eq (fun h => ?_) (fun h => ?_)) | (refine BK.mk (fun h => ?_) (fun h => ?_)) | (refine IK.in64 (by first | omega | (dsimp only; omega)) (by first | omega | (dsimp only; omega)) ?_) | (refine NK.mk (by kernel_rfl) ?_)) <;> (conv => whnf))
      refine AK.one2 (x := [.str (Lib.itoa n)]) (by kernel_rfl) rfl (rowsS_len gs) (hsk.imp (fun h => by rw [h]; rfl) id) ws_tok ?_ ?_
      · show (gs.length + 1) * 17 ≤ _
        omega
      intro ob' A' h' _
      (conv => whnf)
      refine GK.mk [.os sz' ob gs.length (rowsS gs)] (show A'.rows p = _ by rw [show A'.rows = _ from After.rows h']; exact ws_rows) ?_
      (conv => whnf)
      repeat' ((first | (refine BK.dec (fun h => ?_) (fun h => ?_)) | (refine BK.ne (fun h => ?_) (fun h => ?_)) | (refine BK.eq (fun h => ?_) (fun h => ?_)) | (refine BK.mk (fun h => ?_) (fun h => ?_)) | (refine IK.in64 (by first | omega | (dsimp only; omega)) (by first | omega | (dsimp only; omega)) ?_) | (refine NK.mk (by kernel_rfl) ?_)) <;> (conv => whnf))
      obtain ⟨h1, h2⟩ := ws_next (s := Lib.itoa n) hW h'
      refine done rfl rfl rfl rfl h2 ?_
      rw [← rowsS_app] at h1
      exact h1
    | str s =>
      (conv => whnf)
      refine GK.mk _ ws_rows ?_
      (conv => whnf)
      refine AK.one2 (x := [.str s]) (by kernel_rfl) rfl (rowsS_len gs) (hsk.imp (fun h => by rw [h]; rfl) id) ws_tok ?_ ?_
      · show (gs.length + 1) * 17 ≤ _
        omega
      intro ob' A' h' _
      (conv => whnf)
      refine GK.mk [.os sz' ob gs.length (rowsS gs)] (show A'.rows p = _ by rw [show A'.rows = _ from After.rows h']; exact ws_rows) ?_
      (conv => whnf)
      repeat' ((first | (refine BK.dec (fun h => ?_) (fun h => ?_)) | (refine BK.ne (fun h => ?_) (fun h => ?_)) | (refine BK.eq (fun h => ?_) (fun h => ?_)) | (refine BK.mk (fun h => ?_) (fun h => ?_)) | (refine IK.in64 (by first | omega | (dsimp only; omega)) (by first | omega | (dsimp only; omega)) ?_) | (refine NK.mk (by kernel_rfl) ?_)) <;> (conv => whnf))
      obtain ⟨h1, h2⟩ := ws_next (s := s) hW h'
      refine done rfl rfl rfl rfl h2 ?_
      rw [← rowsS_app] at h1
      exact h1
    | bool b =>
      have one := hH.resolve_left (fun h => by cases h)
      (conv => whnf)
      refine NM.mk fun m hm => ?_
      (conv => whnf)
      refine MK.mk [] none (setMap_at) rfl ?_
      (conv => whnf)
      cases b with
      | true =>
        refine MK.mk [(.bool true, .int .i64 1)] (some (0, .int .i64 1)) (setMap_at) rfl ?_
        (conv => whnf)
        refine CK.mk ent55 ((one 1 sz' gs ob A (by omega) hsk hW hlk).weak ?_) (Subs.cons (Sub.refl _) (Subs.cons (fis_one rfl) .nil)) ?_
        · exact le_setMap (le_setMap (AO.le.refl _) hm) hm
        rintro _ B ⟨rfl, ob', hW', hB⟩
        subst hB
        (conv => whnf)
        repeat' ((first | (refine BK.dec (fun h => ?_) (fun h => ?_)) | (refine BK.ne (fun h => ?_) (fun h => ?_)) | (refine BK.eq (fun h => ?_) (fun h => ?_)) | (refine BK.mk (fun h => ?_) (fun h => ?_)) | (refine IK.in64 (by first | omega | (dsimp only; omega)) (by first | omega | (dsimp only; omega)) ?_) | (refine NK.mk (by kernel_rfl) ?_)) <;> (conv => whnf))
        exact done rfl rfl rfl rfl hW' (AO.le.refl _)
      | false =>
        refine MK.mk [(.bool true, .int .i64 1)] none (setMap_at) rfl ?_
        (conv => whnf)
        refine CK.mk ent55 ((one 0 sz' gs ob A (by omega) hsk hW hlk).weak ?_) (Subs.cons (Sub.refl _) (Subs.cons (fis_one rfl) .nil)) ?_
        · exact le_setMap (le_setMap (AO.le.refl _) hm) hm
        rintro _ B ⟨rfl, ob', hW', hB⟩
        subst hB
        (conv => whnf)
        repeat' ((first | (refine BK.dec (fun h => ?_) (fun h => ?_)) | (refine BK.ne (fun h => ?_) (fun h => ?_)) | (refine BK.eq (fun h => ?_) (fun h => ?_)) | (refine BK.mk (fun h => ?_) (fun h => ?_)) | (refine IK.in64 (by first | omega | (dsimp only; omega)) (by first | omega | (dsimp only; omega)) ?_) | (refine NK.mk (by kernel_rfl) ?_)) <;> (conv => whnf))
        exact done rfl rfl rfl rfl hW' (AO.le.refl _)
    | strs ss =>
      have one := hH.resolve_left (fun h => by cases h)
      have hO : ss.length ≤ 1000000 := hO
      (conv => whnf)
      refine CK.mk ent55 (one ss.length sz' gs ob A (by omega) hsk hW hlk) (Subs.cons (Sub.refl _) (Subs.cons (fis_one rfl) .nil)) ?_
      rintro _ B ⟨rfl, ob1, hW1, hB⟩
      subst hB
      (conv => whnf)
      refine GK.mk _ ws_rows ?_
      (conv => whnf)
      have hl2 : (gs ++ [Lib.itoa ss.length]).length = gs.length + 1 := by simp
      refine AK.mk (rowsS_len _) (.inr rfl) ws_tok (fun r hr => ?_) ?_ ?_
      · obtain ⟨s, _, rfl⟩ := List.mem_map.1 hr; rfl
      · show ((gs ++ [Lib.itoa ss.length]).length + (rowsS ss).length) * 17 ≤ _
        rw [rowsS_len, hl2]; omega
      intro ob' A' h'
      have el : (ss.map fun s => [AV.str s]).length = ss.length := by simp
      (conv => whnf)
      refine GK.mk [.os 1 ob1 (gs ++ [Lib.itoa ss.length]).length (rowsS (gs ++ [Lib.itoa ss.length]))] (show A'.rows p = _ by rw [show A'.rows = _ from After.rows h']; exact ws_rows) ?_
      (conv => whnf)
      repeat' ((first | (refine BK.dec (fun h => ?_) (fun h => ?_)) | (refine BK.ne (fun h => ?_) (fun h => ?_)) | (refine BK.eq (fun h => ?_) (fun h => ?_)) | (refine BK.mk (fun h => ?_) (fun h => ?_)) | (refine IK.in64 (by first | omega | (dsimp only; omega)) (by first | omega | (dsimp only; omega)) ?_) | (refine NK.mk (by kernel_rfl) ?_)) <;> (conv => whnf))
      have h'' : After (A.ws p 1 (gs ++ [Lib.itoa ss.length]) ob1) ob1 ob' 1 ((gs ++ [Lib.itoa ss.length]).length + ss.length) 9 A' := by rw [el] at h'; exact h'
      obtain ⟨h1, h2⟩ := ws_more hW1 h''
      refine done rfl rfl rfl rfl h2 ?_
      rw [← rowsS_app, List.append_assoc] at h1
      show (A'.setRow p [AV.os 1 ob' ((gs ++ [Lib.itoa ss.length]).length + (ss.map fun s => [AV.str s]).length) (rowsS (gs ++ [Lib.itoa ss.length]) ++ rowsS ss)]).le _
      rw [el]
      exact h1
  · have hk' : k = l.length := by have : ¬ (k : Int) < l.length := h; have : k ≤ l.length := hk; omega
    subst hk'
    have : l.length ≠ 0 := fun e => hne (List.eq_nil_of_length_eq_zero e)
    refine FK.mk (Sub.refl _) (AO.le.refl _) ⟨rfl, ob, hW, ?_⟩
    show A.ws p (if l.length = 0 then sz else 1) (fs ++ outs (l.take l.length)) ob = _
    rw [if_neg this, List.take_length]
end Ab
end Go.Proofs.YtpmigkbcldffeaaGreatDoor

/- record.public, joined, Id. -/
namespace Go.Proofs.YtpmigkbcldffeaaGreatDoor
namespace Ab
open Go.RowKit Go.Shelf Go.Lib
set_option maxRecDepth 10000
theorem one_ok (N p : Nat) (hN : N ≤ 19999999) : One N p := by
  intro n sz fs ob A hn hsz hW hlen
  refine (addG (N + 1) p (by omega) [.num n] (.inl (by simp [FI.simple])) (fun x hx => by rw [List.mem_singleton.1 hx]; exact hn) sz fs ob A (by simp) hsz hW (fun k hk => ?_) (by simp)).mono ?_
  · have : (outs ([FI.num n].take k)).length ≤ 1 := by
      cases k with
      | zero => simp [outs]
      | succ k => simp [outs, FI.out]
    rw [List.length_append]
    omega
  · rintro v B ⟨rfl, ob', h1, h2⟩
    exact ⟨rfl, ob', h1, by simpa [outs, FI.out] using h2⟩
/-- Strings and numbers are added to fields. -/
theorem add_ok (p : Nat) (l : List FI) (hok : ∀ x ∈ l, x.ok) (sz : Nat) (fs : List Str) (ob : Option Nat) (A : AO) (hne : l ≠ []) (hsz : fs = [] ∨ sz = 1) (hW : WI A p ob)
    (hlen : (fs ++ outs l).length ≤ 10000000) (hl0 : l.length ≤ 1000000) :
    ASpec Tryz.prog 55 [.gp p 0, fis l] (A.ws p sz fs ob) (fun v B => v = .tup [] ∧ ∃ ob', WI A p ob' ∧ B = A.ws p 1 (fs ++ outs l) ob') :=
  addG 10000000 p (by omega) l (.inr (one_ok _ p (by omega))) hok sz fs ob A hne hsz hW (fun k hk => by
    refine Nat.le_trans ?_ hlen
    rw [List.length_append, List.length_append]
    have : outs l = outs (l.take k) ++ outs (l.drop k) := by unfold outs; rw [← List.flatMap_append, List.take_append_drop]
    rw [this, List.length_append]; omega) hl0
/-- What a valid record is. -/
structure RF (r : Rc) : Prop where
  kind : 1 ≤ r.Kind ∧ r.Kind ≤ 5
  author : 0 ≤ r.Author ∧ r.Author ≤ 59
  number : 1 ≤ r.Number ∧ r.Number ≤ 128
  clock : 1 ≤ r.Clock ∧ r.Clock ≤ 1000000
  branch : r.Branch.length ≤ 24
  pars : r.Parents.length ≤ 16
  par : ∀ s ∈ r.Parents, s.length = 16
  text : (textR r.Edits).1.length ≤ 20000
  target : r.Target.length ≤ 16
  order : 0 ≤ r.Order ∧ r.Order ≤ 4
  from_ : r.From.length ≤ 24
theorem textR_len (l : List Ed) : (textR l).1.length ≤ 20000 := by
  have h : (textC l).1.length ≤ 20000 := by
    unfold textC
    split
    · simp
    · split
      · simp
      · rename_i h
        have := bodyC_len (l := l) (k := l.length) (Nat.le_refl _) h
        rwa [List.take_length] at this
  unfold textR
  split
  · simp
  · exact h
theorem inR_iff {n lo hi : Int} (h : inR n lo hi = true) : lo ≤ n ∧ n ≤ hi := by
  unfold inR at h
  simp only [Bool.and_eq_true, decide_eq_true_eq] at h
  omega
theorem isP_len {s : Str} (h : isP s = true) : s.length = 16 := by
  unfold isP at h
  simp only [Bool.and_eq_true, decide_eq_true_eq] at h
  exact h.1
theorem validR_facts {r : Rc} (h : validR r = true) : RF r := by
  unfold validR headR at h
  simp only [Bool.and_eq_true] at h
  obtain ⟨_, ⟨ha, hn, hc, hb, hp, hd, _⟩, _, ht⟩ := h
  have hp : r.Parents.length ≤ 16 := by
    simp only [Bool.not_eq_true', decide_eq_false_iff_not] at hp; omega
  have hd := List.all_eq_true.1 hd
  have key : (1 ≤ r.Kind ∧ r.Kind ≤ 5) ∧ r.Target.length ≤ 16 ∧ (0 ≤ r.Order ∧ r.Order ≤ 4) ∧ r.From.length ≤ 24 := by
    unfold tailR wantR at ht
    by_cases k1 : r.Kind = 1
    · rw [if_pos k1] at ht
      simp only [Bool.and_eq_true, beq_iff_eq] at ht
      obtain ⟨h1, _, h3, h4, _⟩ := ht
      rw [h1, h3, h4]; simp; omega
    rw [if_neg k1] at ht
    by_cases k2 : r.Kind = 2
    · rw [if_pos k2] at ht
      simp only [Bool.and_eq_true, beq_iff_eq] at ht
      obtain ⟨_, _, h3, h4, _, h5⟩ := ht
      have : isP r.Target = true := by simpa [k2] using h5
      have := isP_len this
      rw [h3, h4]; simp; omega
    rw [if_neg k2] at ht
    by_cases k3 : r.Kind = 3
    · rw [if_pos k3] at ht
      cases ho : inR r.Order 1 4 with
      | false => rw [ho] at ht; cases ht
      | true =>
        have ho2 := inR_iff ho
        rw [ho] at ht
        simp only [Bool.and_eq_true, beq_iff_eq] at ht
        obtain ⟨_, _, _, h4, _, h5⟩ := ht
        have : isP r.Target = true := by simpa [k3] using h5
        have := isP_len this
        rw [h4]; simp; omega
    rw [if_neg k3] at ht
    by_cases k4 : r.Kind = 4
    · rw [if_pos k4] at ht
      cases ho : (nameP r.From && !(r.From == r.Branch)) with
      | false => rw [ho] at ht; cases ht
      | true =>
        rw [ho] at ht
        simp only [Bool.and_eq_true, beq_iff_eq] at ht ho
        obtain ⟨h1, _, h3, _⟩ := ht
        have := nameP_len ho.1
        rw [h1, h3]; simp; omega
    rw [if_neg k4] at ht
    by_cases k5 : r.Kind = 5
    · rw [if_pos k5] at ht
      simp only [Bool.and_eq_true, beq_iff_eq] at ht
      obtain ⟨h1, _, h3, h4, _⟩ := ht
      rw [h1, h3, h4]; simp; omega
    rw [if_neg k5] at ht
    cases ht
  exact ⟨key.1, inR_iff ha, inR_iff hn, inR_iff hc, nameP_len hb, hp, fun s hs => isP_len (hd s hs), textR_len _, key.2.1, key.2.2.1, key.2.2.2⟩
/-- The public fields. -/
def pubI (r : Rc) : List FI := [.str [114, 101, 99, 111, 114, 100], .num r.Kind, .num r.Author, .num r.Number, .num r.Clock, .str r.Branch, .strs r.Parents, .str (textR r.Edits).1, .str r.Target, .bool r.Yes, .num r.Order, .str r.From]
def pubF (r : Rc) : List Str := outs (pubI r)
theorem pubF_len {r : Rc} (h : RF r) : (pubF r).length ≤ 28 := by
  have := h.pars
  simp [pubF, pubI, outs, FI.out]
  omega
theorem pubF_ne (r : Rc) : pubF r ≠ [] := by simp [pubF, pubI, outs, FI.out]
theorem pubF_each {r : Rc} (h : RF r) : ∀ s ∈ pubF r, s.length ≤ 20000 := by
  have it : ∀ n : Int, 0 ≤ n → n ≤ 10000000 → (Lib.itoa n).length ≤ 20000 := fun n h0 h1 => Nat.le_trans (Lib.itoa_length_le n (by omega) (by omega)) (by decide)
  have hb := h.branch
  have hk := h.kind; have ha := h.author; have hn := h.number; have hc := h.clock; have ho := h.order
  have ht := h.target; have hf := h.from_; have hx := h.text; have hp := h.pars
  intro s hs
  simp only [pubF, pubI, outs, FI.out, List.flatMap_cons, List.flatMap_nil, List.mem_append, List.mem_cons, List.mem_nil_iff, or_false, List.append_nil] at hs
  rcases hs with rfl | rfl | rfl | rfl | rfl | rfl | (rfl | hs) | rfl | rfl | rfl | rfl | rfl
  · simp
  · exact it _ (by omega) (by omega)
  · exact it _ (by omega) (by omega)
  · exact it _ (by omega) (by omega)
  · exact it _ (by omega) (by omega)
  · omega
  · exact it _ (by omega) (by omega)
  · rw [h.par s hs]; decide
  · omega
  · omega
  · cases r.Yes <;> exact it _ (by decide) (by decide)
  · exact it _ (by omega) (by omega)
  · omega
set_option maxHeartbeats 1000000 in
theorem public_ok' (r : Rc) (hr : r.wf) (F : RF r) : PSpec Tryz.prog 28 [.agg r.c] (strs (pubF r)) := by
  have hk := F.kind; have ha := F.author; have hn := F.number; have hc := F.clock; have ho := F.order
  have hp := F.pars
  refine PSpec.by Tryz.func28 rfl Tryz.ntmps28 [3] rfl fun A => ?_
  (conv => whnf)
  refine HK.mk fun p hp => ?_
  (conv => whnf)
  refine CK.pure ent50 (textR_ok r.Edits hr.edits hr.edit) (Subs.refl _) ?_
  (conv => whnf)
  have hlen := pubF_len F
  refine CK.mk ent55 ((add_ok p (pubI r) (fun x hx => ?_) 0 [] none A (by simp [pubI]) (.inl rfl) .zero (by show ([] ++ pubF r).length ≤ _; simp; omega) (by simp [pubI])).weak ?_) (Subs.cons (Sub.refl _) (Subs.cons (Sub.os_sl rfl) .nil)) ?_
  · simp only [pubI, List.mem_cons, List.mem_nil_iff, or_false] at hx
    rcases hx with rfl | rfl | rfl | rfl | rfl | rfl | rfl | rfl | rfl | rfl | rfl | rfl
    all_goals first
      | trivial
      | (show -9223372036854775808 ≤ _ ∧ _ ≤ 9223372036854775807; omega)
      | (show _ ≤ 1000000; omega)
  · exact ⟨fun q ds hq => ⟨ds, hq, Subs.refl _⟩, fun q x hx => hx, fun q x hx => hx, fun q t hq => setTy_ne hp q t hq⟩
  rintro _ B ⟨rfl, ob, hW, hB⟩
  subst hB
  (conv => whnf)
  refine GK.mk _ ws_rows ?_
  (conv => whnf)
  refine FK.weak ?_ (ws_le hp hW.fresh)
  show Sub (.os 1 ob ([] ++ outs (pubI r)).length (rowsS ([] ++ outs (pubI r)))) _
  exact Sub.os_sl (rowsS_len _)
/-- The joined string. -/
def joinE (s : Str) : Str := Lib.itoa s.length ++ [58] ++ s
def joinF (l : List Str) : Str := l.flatMap joinE
theorem joinF_step {l : List Str} {k : Nat} (h : k < l.length) : joinF (l.take (k + 1)) = ((joinF (l.take k) ++ Lib.itoa l[k].length) ++ [58]) ++ l[k] := by
  unfold joinF joinE; rw [List.take_succ_eq_append_getElem h, List.flatMap_append]; simp
theorem joinF_len {l : List Str} (h : ∀ s ∈ l, s.length ≤ 20000) : ∀ k, k ≤ l.length → (joinF (l.take k)).length ≤ 20022 * k
  | 0, _ => by simp [joinF]
  | k + 1, hk => by
    have ih := joinF_len h k (by omega)
    have h1 := h _ (List.getElem_mem (show k < l.length by omega))
    have h2 := Lib.itoa_length_le (l[k]'(by omega)).length (by omega) (by omega)
    rw [joinF_step (by omega)]
    simp only [List.length_append, List.length_cons, List.length_nil]
    omega
theorem joinF_ne {l : List Str} {k : Nat} (h : k < l.length) : joinF (l.take (k + 1)) ≠ [] := by
  rw [joinF_step h]
  intro e
  have := congrArg List.length e
  simp at this
set_option maxHeartbeats 1000000 in
theorem joined_ok (l : List Str) (hne : l ≠ []) (h0 : l.length ≤ 10000) (h1 : ∀ s ∈ l, s.length ≤ 20000) : PSpec Tryz.prog 29 [strs l] (.str (joinF l)) := by
  refine PSpec.by Tryz.func29 rfl Tryz.ntmps29 [3] rfl fun A => ?_
  (conv => whnf)
  refine HK.mk fun p hp => ?_
  (conv => whnf)
  refine LK.mk (ι := {x : Option Nat × Nat // x.2 ≤ l.length ∧ BI A p x.1 (joinF (l.take x.2))}) (fun x => [(3, .v (.gp p 0)), (6, .v (strs l)), (7, .v (.int .i64 l.length)), (8, .v (.int .i64 x.1.2))]) (fun _ => []) (fun x => A.bl p 108 (if x.1.2 = 0 then .nilp else .gp p 0) (if x.1.2 = 0 then 0 else 1) (joinF (l.take x.1.2)) x.1.1) (fun x => l.length - x.1.2) ⟨(none, 0), Nat.zero_le _, by simpa [joinF] using BI.zero⟩ ?_ ?_
  · exact ⟨⟨Sub.refl _, Sub.refl _, Sub.refl _, Sub.refl _, trivial⟩, trivial, AO.le.refl _⟩
  rintro ⟨⟨ob, k⟩, hk, hB⟩
  have hbl := joinF_len h1 k hk
  dsimp only at hk hB
  (conv => whnf)
  refine BK.dec (fun h => ?_) (fun h => ?_) <;> (conv => whnf)
  · have hk' : k < l.length := by have : (k : Int) < l.length := h; omega
    have hs := h1 _ (List.getElem_mem hk')
    have hi := Lib.itoa_length_le l[k].length (by omega) (by omega)
    refine RK.mk k _ rfl (map_get hk') ?_
    (conv => whnf)
    refine CK.pure ent57 (itoa_ok l[k].length (by omega) (by omega)) (Subs.refl _) ?_
    (conv => whnf)
    refine CK.mk ent56 (ws_ok p 108 (if k = 0 then .nilp else .gp p 0) (if k = 0 then 0 else 1) (joinF (l.take k)) (Lib.itoa l[k].length) ob A bld_self (by by_cases e : k = 0; left; simp [e]; right; simp [e]) (by by_cases e : k = 0; left; simp [e, joinF]; right; simp [e]) hB (by omega)) (Subs.refl _) ?_
    rintro _ B ⟨rfl, o1, hB1, hB⟩
    subst hB
    (conv => whnf)
    refine CK.mk ent58 (wb_ok p 108 (.gp p 0) 1 (joinF (l.take k) ++ Lib.itoa l[k].length) 58 o1 A bld_self (.inr rfl) (.inr rfl) hB1 (by rw [List.length_append]; omega)) (Subs.refl _) ?_
    rintro _ B ⟨rfl, o2, hB2, hB⟩
    subst hB
    (conv => whnf)
    refine CK.mk ent56 (ws_ok p 108 (.gp p 0) 1 ((joinF (l.take k) ++ Lib.itoa l[k].length) ++ [58]) l[k] o2 A bld_self (.inr rfl) (.inr rfl) hB2 (by simp only [List.length_append, List.length_cons, List.length_nil]; omega)) (Subs.refl _) ?_
    rintro _ B ⟨rfl, o3, hB3, hB⟩
    subst hB
    (conv => whnf)
    repeat' ((first | (refine BK.dec (fun h => ?_) (fun h => ?_)) | (refine BK.ne (fun h => ?_) (fun h => ?_)) | (refine BK.eq (fun h => ?_) (fun h => ?_)) | (refine BK.mk (fun h => ?_) (fun h => ?_)) | (refine IK.in64 (by first | omega | (dsimp only; omega)) (by first | omega | (dsimp only; omega)) ?_) | (refine NK.mk (by kernel_rfl) ?_)) <;> (conv => whnf))
    exact ⟨⟨(o3, k + 1), hk', by rw [joinF_step hk']; exact hB3⟩, ⟨⟨Sub.refl _, Sub.refl _, Sub.refl _, Sub.refl _, trivial⟩, trivial, by
      show (A.bl p 108 (.gp p 0) 1 (((joinF (l.take k) ++ Lib.itoa l[k].length) ++ [58]) ++ l[k]) o3).le (A.bl p 108 (.gp p 0) 1 (joinF (l.take (k + 1))) o3)
      rw [joinF_step hk']; exact AO.le.refl _⟩, by simp; omega⟩
  · have hk' : k = l.length := by have : ¬ (k : Int) < l.length := h; omega
    subst hk'
    have hpos : 0 < l.length := List.length_pos_iff.2 hne
    have hne2 : joinF l ≠ [] := by
      have := joinF_ne (l := l) (k := l.length - 1) (by omega)
      rwa [show l.length - 1 + 1 = l.length by omega, List.take_length] at this
    have hB2 : BI A p ob (joinF l) := by simpa [List.take_length] using hB
    have hbl2 : (joinF l).length ≤ 20022 * l.length := by simpa [List.take_length] using hbl
    obtain ⟨b, rfl⟩ : ∃ b, ob = some b := by
      cases ob with
      | none => exact absurd (hB2.nil rfl) hne2
      | some b => exact ⟨b, rfl⟩
    refine CK.mkA (A0 := A.bl p 108 (.gp p 0) 1 (joinF l) (some b)) (by show A.bl p _ (if l.length = 0 then _ else _) (if l.length = 0 then _ else _) (joinF (l.take l.length)) (some b) = _; rw [List.take_length, if_neg (by omega), if_neg (by omega)]) ent59 (string_ok p b 108 (.gp p 0) (joinF l) A hne2 (hB2.ne b rfl) (by omega)) (Subs.refl _) ?_
    rintro _ _ ⟨rfl, rfl⟩
    (conv => whnf)
    exact FK.weak (Sub.refl _) (bl_le hp hB2.fresh)
/-- The Id of a record. -/
def idP (r : Rc) : Str :=
  match validR r with
  | false => []
  | true => sumP (joinF (pubF r))
theorem id_ok (r : Rc) (hr : r.wf) : PSpec Tryz.prog 18 [.agg r.c] (.str (idP r)) := by
  refine PSpec.by Tryz.func18 rfl Tryz.ntmps18 [] rfl fun A => ?_
  (conv => whnf)
  refine CK.bool ent26 (validR_ok r hr) (Subs.refl _) (fun hv => ?_) (fun hv => ?_) <;> (conv => whnf)
  · have F := validR_facts hv
    have hl := pubF_len F
    refine CK.pure ent28 (public_ok' r hr F) (Subs.refl _) ?_
    (conv => whnf)
    refine CK.pure ent29 (joined_ok (pubF r) (pubF_ne r) (by omega) (pubF_each F)) (Subs.refl _) ?_
    (conv => whnf)
    have hj := joinF_len (pubF_each F) (pubF r).length (Nat.le_refl _)
    rw [List.take_length] at hj
    refine CK.pure ent27 (sum_ok (joinF (pubF r)) (by omega)) (Subs.refl _) ?_
    (conv => whnf)
    exact FK.eq (by unfold idP; rw [hv])
  · exact FK.eq (by unfold idP; rw [hv]; try rfl)
end Ab
end Go.Proofs.YtpmigkbcldffeaaGreatDoor
