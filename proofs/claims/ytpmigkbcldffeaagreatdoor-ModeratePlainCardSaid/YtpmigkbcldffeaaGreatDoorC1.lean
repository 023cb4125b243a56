/- The ghost layer: abstract values without addresses, and what it means that a value of the model is one. -/
import Derived.WalkKit
import Derived.OwnWalk
import Derived.Below
import Derived.Laws.Rows
import Derived.Laws.NewBlocks
import Derived.Laws.OwnMore
import Derived.Deep.MidRow
import Derived.Orders
import Derived.Test.YtpmigkbcldffeaaGreatDoorProg
import Derived.Lib.LaidTab
import Derived.Lib.ItoaNum
import Derived.Laws.BytesString
import Derived.MapKept
set_option linter.unusedVariables false
set_option linter.unusedSimpArgs false
set_option linter.unusedSectionVars false
namespace Go.Proofs.YtpmigkbcldffeaaGreatDoor
namespace Ab

/-- A value as the program's data, without the addresses of what does not change any more. -/
inductive AV where
  | int (k : IntKind) (n : Int)
  | bool (b : Bool)
  | str (s : List UInt8)
  | nilp
  | gp (p off : Nat)
  | ip (cells : List AV)
  | sl (sz n : Nat) (rows : List (List AV))
  | os (sz : Nat) (ob : Option Nat) (e : Nat) (rows : List (List AV))
  | gs (sz p off n : Nat)
  | map (m : Nat)
  | fn (f : Fn) (first cap : List AV)
  | iface (t : TypeId) (v : AV)
  | agg (cells : List AV)
  | tup (vs : List AV)
  | raw (v : Value)

/-- What is known of the memory that never changes (S), and the room of each block that is appended to (cp). -/
structure Gh where
  S : Nat → Nat → Option Value
  cp : Nat → Option Nat

structure Gh.le (g g' : Gh) : Prop where
  s : ∀ b o v, g.S b o = some v → g'.S b o = some v
  c : ∀ b n, g.cp b = some n → g'.cp b = some n
theorem Gh.le.refl (g : Gh) : g.le g := ⟨fun _ _ _ h => h, fun _ _ h => h⟩
theorem Gh.le.trans {a b c : Gh} (h : a.le b) (k : b.le c) : a.le c := ⟨fun _ _ _ x => k.s _ _ _ (h.s _ _ _ x), fun _ _ x => k.c _ _ (h.c _ _ x)⟩

inductive VR (g : Gh) : AV → Value → Prop where
  | int (k : IntKind) (n : Int) : VR g (.int k n) (.int k n)
  | bool (b : Bool) : VR g (.bool b) (.bool b)
  | str (l : List UInt8) (b : ByteArray) (h : b.data.toList = l) : VR g (.str l) (.string b)
  | nilp : VR g .nilp (.pointer none)
  | gp (p off : Nat) : VR g (.gp p off) (.pointer (some ⟨p, off, none⟩))
  | ip (cells : List AV) (b o : Nat) (V : Nat → Value)
      (hS : ∀ j, j < cells.length → g.S b (o + j) = some (V j)) (h1 : ∀ j, j < cells.length → (V j).oneCell' = true)
      (hv : ∀ j (h : j < cells.length), VR g cells[j] (V j)) : VR g (.ip cells) (.pointer (some ⟨b, o, none⟩))
  | sl0 (sz : Nat) (A : Option Addr) (c : Nat) : VR g (.sl sz 0 []) (.slice A 0 c)
  | sl (sz n : Nat) (rows : List (List AV)) (b o c : Nat) (V : Nat → Nat → Value) (hn : rows.length = n) (hc : n ≤ c)
      (hl : ∀ i (h : i < rows.length), rows[i].length = sz)
      (hS : ∀ i j, i < rows.length → j < sz → g.S b (o + (i * sz + j)) = some (V i j)) (h1 : ∀ i j, i < rows.length → j < sz → (V i j).oneCell' = true)
      (hv : ∀ i (h : i < rows.length) j (hj : j < rows[i].length), VR g rows[i][j] (V i j)) : VR g (.sl sz n rows) (.slice (some ⟨b, o, none⟩) n c)
  | os0 (sz : Nat) (A : Option Addr) : VR g (.os sz none 0 []) (.slice A 0 0)
  | osf (sz e : Nat) (rows : List (List AV)) (b o : Nat) (V : Nat → Nat → Value) (he : rows.length = e)
      (hl : ∀ i (h : i < rows.length), rows[i].length = sz)
      (hS : ∀ i j, i < rows.length → j < sz → g.S b (o + (i * sz + j)) = some (V i j)) (h1 : ∀ i j, i < rows.length → j < sz → (V i j).oneCell' = true)
      (hv : ∀ i (h : i < rows.length) j (hj : j < rows[i].length), VR g rows[i][j] (V i j)) : VR g (.os sz none e rows) (.slice (some ⟨b, o, none⟩) e e)
  | os (sz b e : Nat) (rows : List (List AV)) (c C : Nat) (V : Nat → Nat → Value) (hC : g.cp b = some C) (hc : c + (e - rows.length) = C) (he : rows.length ≤ e) (heC : e ≤ C)
      (hl : ∀ i (h : i < rows.length), rows[i].length = sz)
      (hS : ∀ i j, i < rows.length → j < sz → g.S b ((e - rows.length) * sz + (i * sz + j)) = some (V i j)) (h1 : ∀ i j, i < rows.length → j < sz → (V i j).oneCell' = true)
      (hv : ∀ i (h : i < rows.length) j (hj : j < rows[i].length), VR g rows[i][j] (V i j)) : VR g (.os sz (some b) e rows) (.slice (some ⟨b, (e - rows.length) * sz, none⟩) rows.length c)
  | gs (sz p off n c : Nat) (hc : n ≤ c) : VR g (.gs sz p off n) (.slice (some ⟨p, off, none⟩) n c)
  | map (m : Nat) : VR g (.map m) (.map (some m))
  | fn (f : Fn) (first cap : List AV) (F C : Nat → Value) (hf : ∀ j (h : j < first.length), VR g first[j] (F j)) (hc : ∀ j (h : j < cap.length), VR g cap[j] (C j)) :
      VR g (.fn f first cap) (.func f ((List.range first.length).map F).toArray ((List.range cap.length).map C).toArray)
  | iface (t : TypeId) (v : AV) (V : Value) (h : VR g v V) : VR g (.iface t v) (.iface t V)
  | agg (cells : List AV) (V : Nat → Value) (h1 : ∀ j, j < cells.length → (V j).oneCell' = true) (hv : ∀ j (h : j < cells.length), VR g cells[j] (V j)) :
      VR g (.agg cells) (.agg ((List.range cells.length).map V).toArray)
  | tup (vs : List AV) (V : Nat → Value) (hv : ∀ j (h : j < vs.length), VR g vs[j] (V j)) : VR g (.tup vs) (.tuple ((List.range vs.length).map V).toArray)
  | raw (v : Value) : VR g (.raw v) v

theorem VR.mono {g g' : Gh} (h : g.le g') {v : AV} {V : Value} (r : VR g v V) : VR g' v V := by
  induction r with
  | int k n => exact .int k n
  | bool b => exact .bool b
  | str l b h => exact .str l b h
  | nilp => exact .nilp
  | gp p off => exact .gp p off
  | ip cells b o V hS h1 hv ih => exact .ip cells b o V (fun j hj => h.s _ _ _ (hS j hj)) h1 ih
  | sl0 sz A c => exact .sl0 sz A c
  | sl sz n rows b o c V hn hc hl hS h1 hv ih => exact .sl sz n rows b o c V hn hc hl (fun i j hi hj => h.s _ _ _ (hS i j hi hj)) h1 ih
  | os0 sz A => exact .os0 sz A
  | osf sz e rows b o V he hl hS h1 hv ih => exact .osf sz e rows b o V he hl (fun i j hi hj => h.s _ _ _ (hS i j hi hj)) h1 ih
  | os sz b e rows c C V hC hc he heC hl hS h1 hv ih => exact .os sz b e rows c C V (h.c _ _ hC) hc he heC hl (fun i j hi hj => h.s _ _ _ (hS i j hi hj)) h1 ih
  | gs sz p off n c hc => exact .gs sz p off n c hc
  | map m => exact .map m
  | fn f first cap F C hf hc ihf ihc => exact .fn f first cap F C ihf ihc
  | iface t v V _ ih => exact .iface t v V ih
  | agg cells V h1 hv ih => exact .agg cells V h1 ih
  | tup vs V hv ih => exact .tup vs V ih
  | raw v => exact .raw v

/-- Lists of values, one by one. -/
structure VL (g : Gh) (l : List AV) (L : List Value) : Prop where
  len : L.length = l.length
  at_ : ∀ j (h : j < l.length) (h' : j < L.length), VR g l[j] L[j]
theorem VL.mono {g g' : Gh} (h : g.le g') {l : List AV} {L : List Value} (r : VL g l L) : VL g' l L := ⟨r.len, fun j h1 h2 => (r.at_ j h1 h2).mono h⟩
theorem VL.nil (g : Gh) : VL g [] [] := ⟨rfl, fun j h => absurd h (Nat.not_lt_zero j)⟩
theorem VL.cons {g : Gh} {v : AV} {V : Value} {l : List AV} {L : List Value} (h : VR g v V) (r : VL g l L) : VL g (v :: l) (V :: L) :=
  ⟨by simp [r.len], fun j h1 h2 => by
    cases j with
    | zero => exact h
    | succ j => simpa using r.at_ j (by simpa using h1) (by simpa using h2)⟩
theorem VL.append {g : Gh} {l m : List AV} {L M : List Value} (h : VL g l L) (r : VL g m M) : VL g (l ++ m) (L ++ M) := by
  refine ⟨by simp [h.len, r.len], fun j h1 h2 => ?_⟩
  by_cases hj : j < l.length
  · have hj' : j < L.length := h.len ▸ hj
    rw [List.getElem_append_left hj, List.getElem_append_left hj']; exact h.at_ j hj hj'
  · have hl := h.len
    have e1 : j - l.length < m.length := by simp at h1; omega
    have e2 : j - L.length < M.length := by simp at h2; omega
    have k := r.at_ (j - l.length) e1 (by rw [r.len]; exact e1)
    rw [List.getElem_append_right (by omega), List.getElem_append_right (by omega)]
    simpa [hl] using k
theorem VL.getElem? {g : Gh} {l : List AV} {L : List Value} (h : VL g l L) {j : Nat} {v : AV} (hv : l[j]? = some v) : ∃ V, L[j]? = some V ∧ VR g v V := by
  obtain ⟨h1, rfl⟩ := List.getElem?_eq_some_iff.1 hv
  exact ⟨L[j]'(h.len ▸ h1), List.getElem?_eq_getElem _, h.at_ j h1 _⟩
theorem VL.inv_cons {g : Gh} {v : AV} {l : List AV} {L : List Value} (h : VL g (v :: l) L) : ∃ V L', L = V :: L' ∧ VR g v V ∧ VL g l L' := by
  cases L with
  | nil => have := h.len; simp at this
  | cons V L' =>
    refine ⟨V, L', rfl, h.at_ 0 (by simp) (by simp), by have := h.len; simpa using this, fun j h1 h2 => ?_⟩
    have := h.at_ (j + 1) (by simpa using h1) (by simpa using h2)
    simpa using this
theorem VL.inv_nil {g : Gh} {L : List Value} (h : VL g [] L) : L = [] := List.eq_nil_of_length_eq_zero (by simpa using h.len)
theorem VL.take {g : Gh} {l : List AV} {L : List Value} (h : VL g l L) (n : Nat) : VL g (l.take n) (L.take n) :=
  ⟨by simp [h.len], fun j h1 h2 => by simpa using h.at_ j (by simp at h1; omega) (by simp at h2; omega)⟩
theorem VL.drop {g : Gh} {l : List AV} {L : List Value} (h : VL g l L) (n : Nat) : VL g (l.drop n) (L.drop n) :=
  ⟨by simp [h.len], fun j h1 h2 => by simpa using h.at_ (n + j) (by simp at h1; omega) (by simp at h2; omega)⟩
theorem VL.set {g : Gh} {l : List AV} {L : List Value} (h : VL g l L) (i : Nat) {v : AV} {V : Value} (hv : VR g v V) : VL g (l.set i v) (L.set i V) :=
  ⟨by simp [h.len], fun j h1 h2 => by
    rw [List.getElem_set, List.getElem_set]
    split
    · exact hv
    · exact h.at_ j (by simpa using h1) (by simpa using h2)⟩
/-- Cells: each of one cell. -/
structure CL (g : Gh) (l : List AV) (L : List Value) : Prop extends VL g l L where
  one : ∀ V ∈ L, V.oneCell' = true
theorem CL.mono {g g' : Gh} (h : g.le g') {l : List AV} {L : List Value} (r : CL g l L) : CL g' l L := ⟨r.toVL.mono h, r.one⟩
theorem CL.take {g : Gh} {l : List AV} {L : List Value} (h : CL g l L) (n : Nat) : CL g (l.take n) (L.take n) := ⟨h.toVL.take n, fun V hV => h.one V (List.mem_of_mem_take hV)⟩
theorem CL.drop {g : Gh} {l : List AV} {L : List Value} (h : CL g l L) (n : Nat) : CL g (l.drop n) (L.drop n) := ⟨h.toVL.drop n, fun V hV => h.one V (List.mem_of_mem_drop hV)⟩
theorem CL.append {g : Gh} {l m : List AV} {L M : List Value} (h : CL g l L) (r : CL g m M) : CL g (l ++ m) (L ++ M) :=
  ⟨h.toVL.append r.toVL, fun V hV => (List.mem_append.1 hV).elim (h.one V) (r.one V)⟩

theorem VR.inv_agg {g : Gh} {cells : List AV} {V : Value} (h : VR g (.agg cells) V) : ∃ L : List Value, V = .agg L.toArray ∧ CL g cells L := by
  cases h with
  | agg _ W h1 hv =>
    refine ⟨_, rfl, ⟨by simp, fun j a b => by simpa using hv j a⟩, fun v hv => ?_⟩
    obtain ⟨j, hj, rfl⟩ := List.mem_map.1 hv
    exact h1 j (List.mem_range.1 hj)
theorem map_range_getD (L : List Value) : (List.range L.length).map (fun j => L.getD j undef) = L := by
  apply List.ext_getElem
  · simp
  · intro i h1 h2
    simp [List.getElem?_eq_getElem h2]
theorem VR.mk_agg {g : Gh} {cells : List AV} {L : List Value} (h : CL g cells L) : VR g (.agg cells) (.agg L.toArray) := by
  have k := VR.agg (g := g) cells (fun j => L.getD j undef)
    (fun j hj => by
      have hj' : j < L.length := h.len ▸ hj
      have : L.getD j undef = L[j] := by simp [hj']
      rw [this]; exact h.one _ (List.getElem_mem hj'))
    (fun j hj => by
      have hj' : j < L.length := h.len ▸ hj
      have : L.getD j undef = L[j] := by simp [hj']
      rw [this]; exact h.at_ j hj hj')
  rwa [← h.len, map_range_getD] at k
theorem VR.inv_tup {g : Gh} {vs : List AV} {V : Value} (h : VR g (.tup vs) V) : ∃ L : List Value, V = .tuple L.toArray ∧ VL g vs L := by
  cases h with
  | tup _ W hv => exact ⟨_, rfl, by simp, fun j a b => by simpa using hv j a⟩
theorem VR.mk_tup {g : Gh} {vs : List AV} {L : List Value} (h : VL g vs L) : VR g (.tup vs) (.tuple L.toArray) := by
  have k := VR.tup (g := g) vs (fun j => L.getD j undef)
    (fun j hj => by
      have hj' : j < L.length := h.len ▸ hj
      have : L.getD j undef = L[j] := by simp [hj']
      rw [this]; exact h.at_ j hj hj')
  rwa [← h.len, map_range_getD] at k
theorem VR.inv_fn {g : Gh} {f : Fn} {first cap : List AV} {V : Value} (h : VR g (.fn f first cap) V) : ∃ F C : List Value, V = .func f F.toArray C.toArray ∧ VL g first F ∧ VL g cap C := by
  cases h with
  | fn _ _ _ F C hf hc => exact ⟨_, _, rfl, ⟨by simp, fun j a b => by simpa using hf j a⟩, ⟨by simp, fun j a b => by simpa using hc j a⟩⟩
theorem VR.mk_fn {g : Gh} (f : Fn) {first cap : List AV} {F C : List Value} (h : VL g first F) (h' : VL g cap C) : VR g (.fn f first cap) (.func f F.toArray C.toArray) := by
  have get : ∀ {l : List AV} {L : List Value}, VL g l L → ∀ j (hj : j < l.length), VR g l[j] (L.getD j undef) := fun {l L} h j hj => by
    have hj' : j < L.length := h.len ▸ hj
    have : L.getD j undef = L[j] := by simp [hj']
    rw [this]; exact h.at_ j hj hj'
  have k := VR.fn (g := g) f first cap (fun j => F.getD j undef) (fun j => C.getD j undef) (get h) (get h')
  rwa [← h.len, map_range_getD, ← h'.len, map_range_getD] at k
/-- The cells behind an address that never change. -/
def Gh.lies (g : Gh) (b o : Nat) (L : List Value) : Prop := ∀ j V, L[j]? = some V → g.S b (o + j) = some V
theorem VR.inv_ip {g : Gh} {cells : List AV} {V : Value} (h : VR g (.ip cells) V) : ∃ b o L, V = .pointer (some ⟨b, o, none⟩) ∧ CL g cells L ∧ g.lies b o L := by
  cases h with
  | ip _ b o W hS h1 hv =>
    refine ⟨b, o, (List.range cells.length).map W, rfl, ⟨⟨by simp, fun j a b => by simpa using hv j a⟩, fun v hv => ?_⟩, fun j V hV => ?_⟩
    · obtain ⟨j, hj, rfl⟩ := List.mem_map.1 hv
      exact h1 j (List.mem_range.1 hj)
    · obtain ⟨hj, rfl⟩ := List.getElem?_eq_some_iff.1 hV
      have hj' : j < cells.length := by simpa using hj
      simpa using hS j hj'
theorem VR.mk_ip {g : Gh} {cells : List AV} {b o : Nat} {L : List Value} (h : CL g cells L) (hl : g.lies b o L) : VR g (.ip cells) (.pointer (some ⟨b, o, none⟩)) := by
  have eq : ∀ j, j < cells.length → L[j]? = some (L.getD j undef) := fun j hj => by
    have hj' : j < L.length := h.len ▸ hj
    simp [hj']
  refine .ip cells b o (fun j => L.getD j undef) (fun j hj => hl j _ (eq j hj)) (fun j hj => h.one _ (List.mem_of_getElem? (eq j hj))) (fun j hj => ?_)
  have hj' : j < L.length := h.len ▸ hj
  have : L.getD j undef = L[j] := by simp [hj']
  rw [this]; exact h.at_ j hj hj'
/-- The elements of a slice, where they lie. -/
def Gh.rows (g : Gh) (b o sz : Nat) (rows : List (List AV)) : Prop :=
  ∀ i (hi : i < rows.length), ∃ L : List Value, CL g rows[i] L ∧ L.length = sz ∧ g.lies b (o + i * sz) L
theorem VR.inv_sl {g : Gh} {sz n : Nat} {rows : List (List AV)} {V : Value} (h : VR g (.sl sz n rows) V) :
    ∃ A c, V = .slice A n c ∧ rows.length = n ∧ n ≤ c ∧ (0 < n → ∃ b o, A = some ⟨b, o, none⟩ ∧ g.rows b o sz rows) := by
  cases h with
  | sl0 _ A c => exact ⟨A, c, rfl, rfl, Nat.zero_le _, fun h => absurd h (Nat.lt_irrefl 0)⟩
  | sl _ _ _ b o c W hn hc hl hS h1 hv =>
    refine ⟨_, c, rfl, hn, hc, fun _ => ⟨b, o, rfl, fun i hi => ⟨(List.range sz).map (W i), ⟨⟨by simp [hl i hi], fun j a b => ?_⟩, fun v hv => ?_⟩, by simp, fun j V hV => ?_⟩⟩⟩
    · simpa using hv i hi j a
    · obtain ⟨j, hj, rfl⟩ := List.mem_map.1 hv
      exact h1 i j hi (List.mem_range.1 hj)
    · obtain ⟨hj, rfl⟩ := List.getElem?_eq_some_iff.1 hV
      have hj' : j < sz := by simpa using hj
      simpa [Nat.add_assoc] using hS i j hi hj'
theorem rows_choose {g : Gh} {b o sz : Nat} {rows : List (List AV)} (h : g.rows b o sz rows) : ∃ W : Nat → Nat → Value,
    (∀ i (h : i < rows.length), rows[i].length = sz) ∧ (∀ i j, i < rows.length → j < sz → g.S b (o + (i * sz + j)) = some (W i j)) ∧
    (∀ i j, i < rows.length → j < sz → (W i j).oneCell' = true) ∧ (∀ i (h : i < rows.length) j (hj : j < rows[i].length), VR g rows[i][j] (W i j)) := by
  have : ∀ i, ∃ L : List Value, ∀ hi : i < rows.length, CL g rows[i] L ∧ L.length = sz ∧ g.lies b (o + i * sz) L := fun i => by
    by_cases hi : i < rows.length
    · obtain ⟨L, hL⟩ := h i hi; exact ⟨L, fun _ => hL⟩
    · exact ⟨[], fun h => absurd h hi⟩
  obtain ⟨F, hF⟩ := Classical.axiomOfChoice this
  have eq : ∀ i, i < rows.length → ∀ j, j < sz → (F i)[j]? = some ((F i).getD j undef) := fun i hi j hj => by
    have hj' : j < (F i).length := by rw [(hF i hi).2.1]; exact hj
    simp [hj']
  refine ⟨fun i j => (F i).getD j undef, fun i hi => by rw [← (hF i hi).1.len, (hF i hi).2.1], fun i j hi hj => ?_, fun i j hi hj => ?_, fun i hi j hj => ?_⟩
  · rw [← Nat.add_assoc]; exact (hF i hi).2.2 j _ (eq i hi j hj)
  · exact (hF i hi).1.one _ (List.mem_of_getElem? (eq i hi j hj))
  · have hj' : j < (F i).length := by rw [(hF i hi).1.len]; exact hj
    have : (F i).getD j undef = (F i)[j] := by simp [hj']
    show VR g rows[i][j] ((F i).getD j undef)
    rw [this]; exact (hF i hi).1.at_ j hj hj'
theorem VR.mk_sl {g : Gh} {b o sz c : Nat} {rows : List (List AV)} (h : g.rows b o sz rows) {n : Nat} (hn : rows.length = n) (hc : n ≤ c) : VR g (.sl sz n rows) (.slice (some ⟨b, o, none⟩) n c) := by
  obtain ⟨W, h1, h2, h3, h4⟩ := rows_choose h
  exact .sl sz n rows b o c W hn hc h1 h2 h3 h4
theorem VR.inv_os {g : Gh} {sz e : Nat} {ob : Option Nat} {rows : List (List AV)} {V : Value} (h : VR g (.os sz ob e rows) V) :
    (ob = none ∧ rows.length = e ∧ ∃ A, V = .slice A e e ∧ (0 < e → ∃ b o, A = some ⟨b, o, none⟩ ∧ g.rows b o sz rows)) ∨
    (∃ b c C, ob = some b ∧ V = .slice (some ⟨b, (e - rows.length) * sz, none⟩) rows.length c ∧ g.cp b = some C ∧ c + (e - rows.length) = C ∧ rows.length ≤ e ∧ e ≤ C ∧ g.rows b ((e - rows.length) * sz) sz rows) := by
  cases h with
  | os0 _ A => exact .inl ⟨rfl, rfl, A, rfl, fun h => absurd h (Nat.lt_irrefl 0)⟩
  | osf _ _ _ b o W he hl hS h1 hv =>
    refine .inl ⟨rfl, he, _, rfl, fun _ => ⟨b, o, rfl, fun i hi => ⟨(List.range sz).map (W i), ⟨⟨by simp [hl i hi], fun j a b => ?_⟩, fun v hv => ?_⟩, by simp, fun j V hV => ?_⟩⟩⟩
    · simpa using hv i hi j a
    · obtain ⟨j, hj, rfl⟩ := List.mem_map.1 hv
      exact h1 i j hi (List.mem_range.1 hj)
    · obtain ⟨hj, rfl⟩ := List.getElem?_eq_some_iff.1 hV
      have hj' : j < sz := by simpa using hj
      simpa [Nat.add_assoc] using hS i j hi hj'
  | os _ b _ _ c C W hC hc he heC hl hS h1 hv =>
    refine .inr ⟨b, c, C, rfl, rfl, hC, hc, he, heC, fun i hi => ⟨(List.range sz).map (W i), ⟨⟨by simp [hl i hi], fun j a b => ?_⟩, fun v hv => ?_⟩, by simp, fun j V hV => ?_⟩⟩
    · simpa using hv i hi j a
    · obtain ⟨j, hj, rfl⟩ := List.mem_map.1 hv
      exact h1 i j hi (List.mem_range.1 hj)
    · obtain ⟨hj, rfl⟩ := List.getElem?_eq_some_iff.1 hV
      have hj' : j < sz := by simpa using hj
      simpa [Nat.add_assoc] using hS i j hi hj'
theorem VR.mk_osf {g : Gh} {b o e sz : Nat} {rows : List (List AV)} (he : rows.length = e) (h : g.rows b o sz rows) : VR g (.os sz none e rows) (.slice (some ⟨b, o, none⟩) e e) := by
  obtain ⟨W, h1, h2, h3, h4⟩ := rows_choose h
  exact .osf sz e rows b o W he h1 h2 h3 h4
theorem VR.mk_os {g : Gh} {b e sz c C : Nat} {rows : List (List AV)} (hC : g.cp b = some C) (hc : c + (e - rows.length) = C) (he : rows.length ≤ e) (heC : e ≤ C)
    (h : g.rows b ((e - rows.length) * sz) sz rows) : VR g (.os sz (some b) e rows) (.slice (some ⟨b, (e - rows.length) * sz, none⟩) rows.length c) := by
  obtain ⟨W, h1, h2, h3, h4⟩ := rows_choose h
  exact .os sz b e rows c C W hC hc he heC h1 h2 h3 h4

/-- Less is known: what v is, is a v' too. -/
def Sub (v v' : AV) : Prop := ∀ g V, VR g v V → VR g v' V
theorem Sub.refl (v : AV) : Sub v v := fun _ _ h => h
theorem Sub.os_sl {sz : Nat} {ob : Option Nat} {e n : Nat} {rows : List (List AV)} (hn : rows.length = n) : Sub (.os sz ob e rows) (.sl sz n rows) := fun g V h => by
  subst hn
  rcases h.inv_os with ⟨rfl, rfl, A, rfl, hr⟩ | ⟨b, c, C, rfl, rfl, hC, hc, he, heC, hr⟩
  · by_cases h0 : 0 < rows.length
    · obtain ⟨b, o, rfl, hq⟩ := hr h0
      exact VR.mk_sl hq rfl (Nat.le_refl _)
    · have : rows = [] := List.eq_nil_of_length_eq_zero (by omega)
      subst this
      exact .sl0 _ _ _
  · exact VR.mk_sl hr rfl (by omega)
theorem Sub.os_sz {sz sz' : Nat} : Sub (.os sz none 0 []) (.os sz' none 0 []) := fun g V h => by
  rcases h.inv_os with ⟨_, _, A, rfl, _⟩ | ⟨b, c, C, h, _⟩
  · exact .os0 _ _
  · cases h
theorem Sub.os_sl0 {sz sz' : Nat} {ob : Option Nat} : Sub (.os sz ob 0 []) (.sl sz' 0 []) := fun g V h => by
  rcases h.inv_os with ⟨_, _, A, rfl, _⟩ | ⟨b, c, C, _, rfl, _⟩
  · exact .sl0 _ _ _
  · exact .sl0 _ _ _
/-- One by one. -/
def Subs (l l' : List AV) : Prop := l.length = l'.length ∧ ∀ j (h : j < l.length) (h' : j < l'.length), Sub l[j] l'[j]
theorem Subs.refl (l : List AV) : Subs l l := ⟨rfl, fun j _ _ => Sub.refl _⟩
theorem Subs.nil : Subs [] [] := Subs.refl _
theorem Subs.cons {v v' : AV} {l l' : List AV} (h : Sub v v') (k : Subs l l') : Subs (v :: l) (v' :: l') :=
  ⟨by simp [k.1], fun j h1 h2 => by
    cases j with
    | zero => exact h
    | succ j => simpa using k.2 j (by simpa using h1) (by simpa using h2)⟩
theorem Subs.vl {g : Gh} {l l' : List AV} {L : List Value} (h : Subs l l') (k : VL g l L) : VL g l' L :=
  ⟨by rw [k.len, h.1], fun j h1 h2 => h.2 j (by rw [h.1]; exact h1) h1 _ _ (k.at_ j (by rw [h.1]; exact h1) h2)⟩
theorem Subs.cl {g : Gh} {l l' : List AV} {L : List Value} (h : Subs l l') (k : CL g l L) : CL g l' L := ⟨h.vl k.toVL, k.one⟩
theorem Sub.agg {l l' : List AV} (h : Subs l l') : Sub (.agg l) (.agg l') := fun g V r => by
  obtain ⟨L, rfl, k⟩ := r.inv_agg
  exact VR.mk_agg (h.cl k)
theorem Sub.tup {l l' : List AV} (h : Subs l l') : Sub (.tup l) (.tup l') := fun g V r => by
  obtain ⟨L, rfl, k⟩ := r.inv_tup
  exact VR.mk_tup (h.vl k)
end Ab
end Go.Proofs.YtpmigkbcldffeaaGreatDoor

/- Worlds, what is known of them, and what a call is known to do. -/
namespace Go.Proofs.YtpmigkbcldffeaaGreatDoor
namespace Ab

/-- The memory that may change and that is known: rows of cells, rows that are appended to (element size, how far they are full), maps. -/
structure AO where
  rows : Nat → Option (List AV)
  toks : Nat → Option (Nat × Nat)
  maps : Nat → Option (List (AV × AV))
  tys : Nat → Option TypeId

def AO.mut (A : AO) (b : Nat) : Prop := A.rows b ≠ none ∨ A.toks b ≠ none ∨ A.maps b ≠ none ∨ A.tys b ≠ none

/-- Block b is a plain row that holds just these cells. -/
def RowAt (g : Gh) (w : World) (b : Nat) (cs : List AV) : Prop := ∃ (L : List Value) (T : TypeId), w.heap[b]? = some (.cells L.toArray T (0, 0)) ∧ CL g cs L
def TokAt (g : Gh) (w : World) (b sz e : Nat) : Prop :=
  ∃ (arr : Array Value) (T lo hi C : Nat), w.heap[b]? = some (.cells arr T (lo, hi)) ∧ arr.size = C * sz ∧ g.cp b = some C ∧ e ≤ C ∧ hi ≤ e * sz ∧ ∀ o, e * sz ≤ o → g.S b o = none
/-- The entries of a map, one by one, in order; each was born at its place. -/
def MapAt (g : Gh) (w : World) (b : Nat) (es : List (AV × AV)) : Prop :=
  ∃ (L : List MapEntry) (clock : Nat), w.heap[b]? = some (.map L.toArray clock) ∧ L.length = es.length ∧ ∀ j (h : j < es.length) (h' : j < L.length), VR g es[j].1 L[j].key ∧ VR g es[j].2 L[j].val

/-- Block b is of this type. -/
def TyAt (w : World) (b : Nat) (t : TypeId) : Prop := ∃ arr fr, w.heap[b]? = some (.cells arr t fr)

structure Inv (A : AO) (g : Gh) (w : World) : Prop where
  sealed : ∀ b o v, g.S b o = some v → w.cell? ⟨b, o, none⟩ = some v
  rows : ∀ p cs, A.rows p = some cs → RowAt g w p cs ∧ ∀ o, g.S p o = none
  toks : ∀ p sz e, A.toks p = some (sz, e) → TokAt g w p sz e
  maps : ∀ p es, A.maps p = some es → MapAt g w p es
  apart : ∀ p, A.rows p ≠ none → A.toks p = none
  cps : ∀ b n, g.cp b = some n → b < w.heap.size
  tys : ∀ p t, A.tys p = some t → TyAt w p t

theorem RowAt.lt {g : Gh} {w : World} {b : Nat} {cs : List AV} (h : RowAt g w b cs) : b < w.heap.size := by
  obtain ⟨L, T, h, _⟩ := h; exact (Array.getElem?_eq_some_iff.1 h).1
theorem TokAt.lt {g : Gh} {w : World} {b sz e : Nat} (h : TokAt g w b sz e) : b < w.heap.size := by
  obtain ⟨_, _, _, _, _, h, _⟩ := h; exact (Array.getElem?_eq_some_iff.1 h).1
theorem MapAt.lt {g : Gh} {w : World} {b : Nat} {es : List (AV × AV)} (h : MapAt g w b es) : b < w.heap.size := by
  obtain ⟨L, T, h, _⟩ := h; exact (Array.getElem?_eq_some_iff.1 h).1
theorem Inv.mut_lt {A : AO} {g : Gh} {w : World} (h : Inv A g w) {b : Nat} (hb : A.mut b) : b < w.heap.size := by
  rcases hb with hb | hb | hb | hb
  · obtain ⟨cs, e⟩ := Option.ne_none_iff_exists'.1 hb; exact (h.rows b cs e).1.lt
  · obtain ⟨⟨sz, e⟩, h'⟩ := Option.ne_none_iff_exists'.1 hb; exact (h.toks b sz e h').lt
  · obtain ⟨es, e⟩ := Option.ne_none_iff_exists'.1 hb; exact (h.maps b es e).lt
  · obtain ⟨t, e⟩ := Option.ne_none_iff_exists'.1 hb; obtain ⟨_, _, h'⟩ := h.tys b t e; exact (Array.getElem?_eq_some_iff.1 h').1
theorem Inv.seal_lt {A : AO} {g : Gh} {w : World} (h : Inv A g w) {b o : Nat} {v : Value} (hb : g.S b o = some v) : b < w.heap.size :=
  World.block_lt_of_cell? w ⟨b, o, none⟩ (h.sealed b o v hb)

theorem RowAt.keep {g g' : Gh} {w w' : World} {b : Nat} {cs : List AV} (h : RowAt g w b cs) (hg : g.le g') (hw : w'.heap[b]? = w.heap[b]?) : RowAt g' w' b cs := by
  obtain ⟨L, T, h, k⟩ := h; exact ⟨L, T, hw.trans h, k.mono hg⟩

/-- From a world to a later one, with what is known of them: only memory that may change has changed, and what is new is new. -/
structure St (A : AO) (g : Gh) (w : World) (A' : AO) (g' : Gh) (w' : World) : Prop where
  le : g.le g'
  os : w'.os = w.os
  tape : w'.tape = w.tape
  output : w'.output = w.output
  size : w.heap.size ≤ w'.heap.size
  block : ∀ b, b < w.heap.size → ¬ A.mut b → w'.heap[b]? = w.heap[b]?
  fresh : ∀ b, A'.mut b → A.mut b ∨ w.heap.size ≤ b
  keepS : ∀ b o, b < w.heap.size → ¬ A.mut b → g'.S b o = g.S b o

theorem St.refl (A : AO) (g : Gh) (w : World) : St A g w A g w := ⟨.refl g, rfl, rfl, rfl, Nat.le_refl _, fun _ _ _ => rfl, fun _ h => .inl h, fun _ _ _ _ => rfl⟩
theorem St.trans {A A1 A2 : AO} {g g1 g2 : Gh} {w w1 w2 : World} (h : St A g w A1 g1 w1) (k : St A1 g1 w1 A2 g2 w2) : St A g w A2 g2 w2 := by
  have hm : ∀ b, b < w.heap.size → ¬ A.mut b → b < w1.heap.size ∧ ¬ A1.mut b := fun b hb hn =>
    ⟨Nat.lt_of_lt_of_le hb h.size, fun hc => (h.fresh b hc).elim hn (fun h' => absurd hb (Nat.not_lt.2 h'))⟩
  exact ⟨h.le.trans k.le, k.os.trans h.os, k.tape.trans h.tape, k.output.trans h.output, Nat.le_trans h.size k.size,
    fun b hb hn => (k.block b (hm b hb hn).1 (hm b hb hn).2).trans (h.block b hb hn),
    fun b hb => (k.fresh b hb).elim (fun h' => h.fresh b h') (fun h' => .inr (Nat.le_trans h.size h')),
    fun b o hb hn => (k.keepS b o (hm b hb hn).1 (hm b hb hn).2).trans (h.keepS b o hb hn)⟩

/-- Memory may be forgotten. -/
structure AO.le (A A' : AO) : Prop where
  rows : ∀ p cs, A'.rows p = some cs → ∃ cs', A.rows p = some cs' ∧ Subs cs' cs
  toks : ∀ p x, A'.toks p = some x → A.toks p = some x
  maps : ∀ p x, A'.maps p = some x → A.maps p = some x
  tys : ∀ p x, A'.tys p = some x → A.tys p = some x
theorem AO.le.refl (A : AO) : A.le A := ⟨fun _ cs h => ⟨cs, h, Subs.refl _⟩, fun _ _ h => h, fun _ _ h => h, fun _ _ h => h⟩
theorem AO.le.mut {A A' : AO} (h : A.le A') {b : Nat} (hb : A'.mut b) : A.mut b := by
  rcases hb with hb | hb | hb | hb
  · obtain ⟨cs, e⟩ := Option.ne_none_iff_exists'.1 hb; obtain ⟨cs', e', _⟩ := h.rows b cs e; exact .inl (by rw [e']; simp)
  · obtain ⟨x, e⟩ := Option.ne_none_iff_exists'.1 hb; exact .inr (.inl (by rw [h.toks b x e]; simp))
  · obtain ⟨x, e⟩ := Option.ne_none_iff_exists'.1 hb; exact .inr (.inr (.inl (by rw [h.maps b x e]; simp)))
  · obtain ⟨x, e⟩ := Option.ne_none_iff_exists'.1 hb; exact .inr (.inr (.inr (by rw [h.tys b x e]; simp)))
/-- All that is known is known there too. -/
structure AO.sub (A A' : AO) : Prop where
  rows : ∀ p cs, A.rows p = some cs → A'.rows p = some cs
  maps : ∀ p es, A.maps p = some es → A'.maps p = some es
theorem AO.sub.refl (A : AO) : A.sub A := ⟨fun _ _ h => h, fun _ _ h => h⟩
theorem Inv.weak {A A' : AO} {g : Gh} {w : World} (h : Inv A g w) (k : A.le A') : Inv A' g w :=
  ⟨h.sealed, fun p cs e => by
      obtain ⟨cs', e', hs⟩ := k.rows p cs e
      obtain ⟨⟨L, T, h1, h2⟩, h3⟩ := h.rows p cs' e'
      exact ⟨⟨L, T, h1, hs.cl h2⟩, h3⟩,
    fun p sz e h' => h.toks p sz e (k.toks p _ h'), fun p es h' => h.maps p es (k.maps p _ h'),
    fun p h' => by
      obtain ⟨cs, e⟩ := Option.ne_none_iff_exists'.1 h'
      obtain ⟨cs', e', _⟩ := k.rows p cs e
      have := h.apart p (by rw [e']; simp)
      cases hq : A'.toks p with
      | none => rfl
      | some x => rw [k.toks p x hq] at this; exact this, h.cps, fun p t h' => h.tys p t (k.tys p t h')⟩
theorem St.weak {A A1 A' : AO} {g g' : Gh} {w w' : World} (h : St A g w A1 g' w') (k : A1.le A') : St A g w A' g' w' :=
  ⟨h.le, h.os, h.tape, h.output, h.size, h.block, fun b hb => h.fresh b (k.mut hb), h.keepS⟩

/-- Library tables that nobody writes. -/
structure CstOk (A : AO) (w : World) : Prop where
  tab : Lib.TabIs Tryz.prog w "internal/strconv.uint64pow10" .u64 Lib.pow10Tab
  far : ∀ g, Tryz.prog.globalNamed "internal/strconv.uint64pow10" = some g → ¬ A.mut g
theorem CstOk.step {A A' : AO} {g g' : Gh} {w w' : World} (h : CstOk A w) (s : St A g w A' g' w') : CstOk A' w' := by
  have key : ∀ g, Tryz.prog.globalNamed "internal/strconv.uint64pow10" = some g → g < w.heap.size ∧ w'.heap[g]? = w.heap[g]? := fun b hb => by
    have h1 := h.tab
    unfold Lib.TabIs World.var? at h1
    rw [hb] at h1
    simp only [Option.bind_some] at h1
    have hlt : b < w.heap.size := by
      rcases Nat.lt_or_ge b w.heap.size with h' | h'
      · exact h'
      · rw [Array.getElem?_eq_none h'] at h1; cases h1
    exact ⟨hlt, s.block b hlt (h.far b hb)⟩
  refine ⟨?_, fun b hb hm => ?_⟩
  · have h1 := h.tab
    unfold Lib.TabIs World.var? at h1 ⊢
    cases hg : Tryz.prog.globalNamed "internal/strconv.uint64pow10" with
    | none => rw [hg] at h1; cases h1
    | some b =>
      rw [hg] at h1
      simp only [Option.bind_some] at h1 ⊢
      rw [(key b hg).2]; exact h1
  · rcases s.fresh b hm with h1 | h1
    · exact h.far b hb h1
    · have := (key b hb).1; omega

/-- What a call is known to do. -/
def ASpec (P : Program) (f : FuncId) (args : List AV) (A : AO) (Q : AV → AO → Prop) : Prop :=
  ∀ g w (Vs : List Value), Inv A g w → CstOk A w → VL g args Vs → Calls P f Vs.toArray w fun e w' => ∃ v A' g' V, e = .returned V ∧ Q v A' ∧ VR g' v V ∧ Inv A' g' w' ∧ St A g w A' g' w'
/-- A call that leaves nothing behind but its result. -/
def PSpec (P : Program) (f : FuncId) (args : List AV) (v : AV) : Prop := ∀ A, ASpec P f args A fun v' A' => v' = v ∧ A' = A

theorem ASpec.mono {P : Program} {f : FuncId} {args : List AV} {A : AO} {Q Q' : AV → AO → Prop} (h : ASpec P f args A Q) (hq : ∀ v A', Q v A' → Q' v A') : ASpec P f args A Q' :=
  fun g w Vs hi hc hv => (h g w Vs hi hc hv).mono fun _ _ ⟨v, A', g', V, e, q, r⟩ => ⟨v, A', g', V, e, hq _ _ q, r⟩
theorem ASpec.args {P : Program} {f : FuncId} {args args' : List AV} {A : AO} {Q : AV → AO → Prop} (h : ASpec P f args' A Q) (hs : Subs args args') : ASpec P f args A Q :=
  fun g w Vs hi hc hv => h g w Vs hi hc (hs.vl hv)
theorem PSpec.args {P : Program} {f : FuncId} {args args' : List AV} {v : AV} (h : PSpec P f args' v) (hs : Subs args args') : PSpec P f args v := fun A => (h A).args hs
theorem PSpec.sub {P : Program} {f : FuncId} {args : List AV} {v v' : AV} (h : PSpec P f args v) (hs : Sub v v') : PSpec P f args v' :=
  fun A g w Vs hi hc hv => (h A g w Vs hi hc hv).mono fun _ _ ⟨_, _, g', V, e, ⟨rfl, rfl⟩, r1, r2, r3⟩ => ⟨v', _, g', V, e, ⟨rfl, rfl⟩, hs _ _ r1, r2, r3⟩

/-- What stands in a temporary: a value, or the address of a variable of the call's own. -/
inductive TV where
  | v (a : AV)
  | lp (i off : Nat)
  | ls (i off n c : Nat)

/-- Frame: the number of temporaries, and what was when the call began. -/
structure Cx where
  N : Nat
  A0 : AO
  g0 : Gh
  w0 : World
  cst : CstOk A0 w0

def TR (g : Gh) (O : Nat → Option (List AV)) (ob : Nat → Nat) : TV → Value → Prop
  | .v a, V => VR g a V
  | .lp i off, V => O i ≠ none ∧ V = .pointer (some ⟨ob i, off, none⟩)
  | .ls i off n c, V => O i ≠ none ∧ n ≤ c ∧ V = .slice (some ⟨ob i, off, none⟩) n c

structure FR (C : Cx) (T : Nat → Option TV) (O : Nat → Option (List AV)) (A : AO) (g : Gh) (ob : Nat → Nat) (a : Act) (w : World) : Prop where
  size : a.tmps.size = C.N
  defers : a.defers = []
  tm : ∀ t v, T t = some v → ∃ V, a.tmps[t]? = some V ∧ TR g O ob v V
  own : ∀ i cs, O i = some cs → RowAt g w (ob i) cs ∧ (∀ o, g.S (ob i) o = none) ∧ ¬ A.mut (ob i) ∧ C.w0.heap.size ≤ ob i
  inj : ∀ i j, O i ≠ none → O j ≠ none → ob i = ob j → i = j
  inv : Inv A g w
  st : St C.A0 C.g0 C.w0 A g w

theorem FR.cst {C : Cx} {T : Nat → Option TV} {O : Nat → Option (List AV)} {A : AO} {g : Gh} {ob : Nat → Nat} {a : Act} {w : World} (h : FR C T O A g ob a w) : CstOk A w := C.cst.step h.st
def updT (T : Nat → Option TV) (d : Option Tmp) (v : TV) : Nat → Option TV := fun t => if some t = d then some v else T t
def updO (O : Nat → Option (List AV)) (i : Nat) (cs : List AV) : Nat → Option (List AV) := fun j => if j = i then some cs else O j

/-- What an operation does beside its value. -/
inductive Eff where
  | nop
  | own (i : Nat) (cs : List AV)
  | out (A : AO)

def Eff.O (O : Nat → Option (List AV)) : Eff → Nat → Option (List AV)
  | .own i cs => updO O i cs
  | _ => O
def Eff.A (A : AO) : Eff → AO
  | .out A' => A'
  | _ => A

theorem Act.put_size (a : Act) (d : Option Tmp) (v : Value) : (a.put d v).tmps.size = a.tmps.size := by
  cases d <;> simp [Act.put]
theorem Act.put_defers (a : Act) (d : Option Tmp) (v : Value) : (a.put d v).defers = a.defers := by
  cases d <;> simp [Act.put]
theorem Act.put_same (a : Act) (d : Tmp) (v : Value) (h : d < a.tmps.size) : (a.put (some d) v).tmps[d]? = some v := by
  simp [Act.put, h]
theorem Act.put_other (a : Act) (d : Option Tmp) (v : Value) (t : Tmp) (h : some t ≠ d) : (a.put d v).tmps[t]? = a.tmps[t]? := by
  cases d with
  | none => rfl
  | some d =>
    have : d ≠ t := fun e => h (by rw [e])
    simp [Act.put, this]

/-- The value of an operation is put into its temporary. -/
theorem FR.put {C : Cx} {T : Nat → Option TV} {O : Nat → Option (List AV)} {A : AO} {g : Gh} {ob : Nat → Nat} {a : Act} {w : World} (h : FR C T O A g ob a w)
    (d : Option Tmp) (hd : ∀ t, d = some t → t < C.N) {v : TV} {V : Value} (hv : TR g O ob v V) : FR C (updT T d v) O A g ob (a.put d V) w :=
  ⟨by rw [Act.put_size, h.size], by rw [Act.put_defers, h.defers], fun t u hu => by
      unfold updT at hu
      split at hu
      · rename_i e
        injection hu with hu
        subst hu; subst e
        exact ⟨V, Act.put_same a t V (by rw [h.size]; exact hd t rfl), hv⟩
      · rename_i e
        obtain ⟨U, h1, h2⟩ := h.tm t u hu
        exact ⟨U, by rw [Act.put_other a d V t e]; exact h1, h2⟩,
    h.own, h.inj, h.inv, h.st⟩
end Ab
end Go.Proofs.YtpmigkbcldffeaaGreatDoor

/- The abstract machine: what a function's text does with such values, as a proposition to be worked off. -/
namespace Go.Proofs.YtpmigkbcldffeaaGreatDoor
namespace Ab

/-! ### Marks: where the working off stops -/
/-- A test: both ways. -/
structure BK (b : Bool) (K : Bool → Prop) : Prop where in_ ::
  out_ : K b
theorem BK.mk {b : Bool} {K : Bool → Prop} (h1 : b = true → K true) (h0 : b = false → K false) : BK b K := by
  refine ⟨?_⟩; cases b
  · exact h0 rfl
  · exact h1 rfl
theorem BK.is {b c : Bool} {K : Bool → Prop} (h : b = c) (k : K c) : BK b K := by refine ⟨?_⟩; rw [h]; exact k
theorem BK.out {b : Bool} {K : Bool → Prop} (h : BK b K) : K b := by exact h.out_
/-- An integer result. -/
structure IK (k : IntKind) (n : Int) (K : Int → Prop) : Prop where in_ ::
  out_ : K (k.wrap n)
theorem IK.mk {k : IntKind} {n : Int} {K : Int → Prop} (h : K (k.wrap n)) : IK k n K := by refine ⟨?_⟩; exact h
theorem IK.is {k : IntKind} {n m : Int} {K : Int → Prop} (e : k.wrap n = m) (h : K m) : IK k n K := by refine ⟨?_⟩; rw [e]; exact h
theorem IK.out {k : IntKind} {n : Int} {K : Int → Prop} (h : IK k n K) : K (k.wrap n) := by exact h.out_
/-- What is needed. -/
structure NK (p : Prop) (K : Prop) : Prop where in_ ::
  out_ : p ∧ K
theorem NK.mk {p K : Prop} (h : p) (k : K) : NK p K := by refine ⟨?_⟩; exact ⟨h, k⟩
theorem NK.out {p K : Prop} (h : NK p K) : p ∧ K := by exact h.out_
/-- Row i of a slice. -/
structure RK (rows : List (List AV)) (i : Int) (K : List AV → Prop) : Prop where in_ ::
  out_ : ∃ row, 0 ≤ i ∧ rows[i.toNat]? = some row ∧ K row
theorem RK.mk {rows : List (List AV)} {i : Int} {K : List AV → Prop} (k : Nat) (row : List AV) (hi : i = k) (h : rows[k]? = some row) (hk : K row) : RK rows i K := by
  refine ⟨?_⟩; subst hi; exact ⟨row, by omega, by simpa using h, hk⟩
theorem RK.out {rows : List (List AV)} {i : Int} {K : List AV → Prop} (h : RK rows i K) : ∃ row, 0 ≤ i ∧ rows[i.toNat]? = some row ∧ K row := by exact h.out_
/-- Byte i of a string. -/
structure SK (s : List UInt8) (i : Int) (K : UInt8 → Prop) : Prop where in_ ::
  out_ : ∃ c, 0 ≤ i ∧ s[i.toNat]? = some c ∧ K c
theorem SK.mk {s : List UInt8} {i : Int} {K : UInt8 → Prop} (k : Nat) (c : UInt8) (hi : i = k) (h : s[k]? = some c) (hk : K c) : SK s i K := by
  refine ⟨?_⟩; subst hi; exact ⟨c, by omega, by simpa using h, hk⟩
theorem SK.out {s : List UInt8} {i : Int} {K : UInt8 → Prop} (h : SK s i K) : ∃ c, 0 ≤ i ∧ s[i.toNat]? = some c ∧ K c := by exact h.out_
/-- A row of memory that may change. -/
structure GK (A : AO) (p : Nat) (K : List AV → Prop) : Prop where in_ ::
  out_ : ∃ row, A.rows p = some row ∧ K row
theorem GK.mk {A : AO} {p : Nat} {K : List AV → Prop} (row : List AV) (h : A.rows p = some row) (k : K row) : GK A p K := by refine ⟨?_⟩; exact ⟨row, h, k⟩
theorem GK.out {A : AO} {p : Nat} {K : List AV → Prop} (h : GK A p K) : ∃ row, A.rows p = some row ∧ K row := by exact h.out_
/-- A call that leaves nothing behind. -/
structure PK (P : Program) (f : FuncId) (args : List AV) (K : AV → Prop) : Prop where in_ ::
  out_ : (∀ args w, (callFunc f args).run P w = .ok (.enter f args) w) ∧ ∃ v, PSpec P f args v ∧ K v
/-- Any call. -/
structure CK (P : Program) (f : FuncId) (args : List AV) (A : AO) (K : AV → AO → Prop) : Prop where in_ ::
  out_ : (∀ args w, (callFunc f args).run P w = .ok (.enter f args) w) ∧ ∃ Q, ASpec P f args A Q ∧ ∀ v A', Q v A' → K v A'
/-- Functions with a text of their own. -/
def Ent (P : Program) (f : FuncId) : Prop := ∀ args w, (callFunc f args).run P w = .ok (.enter f args) w
theorem PK.mk {P : Program} {f : FuncId} {args args' : List AV} {v : AV} {K : AV → Prop} (e : Ent P f) (h : PSpec P f args' v) (hs : Subs args args') (k : K v) : PK P f args K := by
  refine ⟨?_⟩; exact ⟨e, v, h.args hs, k⟩
theorem PK.out {P : Program} {f : FuncId} {args : List AV} {K : AV → Prop} (h : PK P f args K) : Ent P f ∧ ∃ v, PSpec P f args v ∧ K v := by exact h.out_
theorem CK.mk {P : Program} {f : FuncId} {args args' : List AV} {A : AO} {Q : AV → AO → Prop} {K : AV → AO → Prop} (e : Ent P f) (h : ASpec P f args' A Q) (hs : Subs args args') (k : ∀ v A', Q v A' → K v A') : CK P f args A K := by
  refine ⟨?_⟩; exact ⟨e, Q, h.args hs, k⟩
theorem CK.pure {P : Program} {f : FuncId} {args args' : List AV} {A : AO} {v : AV} {K : AV → AO → Prop} (e : Ent P f) (h : PSpec P f args' v) (hs : Subs args args') (k : K v A) : CK P f args A K := by
  refine ⟨?_⟩; exact ⟨e, _, (h A).args hs, by rintro _ _ ⟨rfl, rfl⟩; exact k⟩
theorem CK.out {P : Program} {f : FuncId} {args : List AV} {A : AO} {K : AV → AO → Prop} (h : CK P f args A K) : Ent P f ∧ ∃ Q, ASpec P f args A Q ∧ ∀ v A', Q v A' → K v A' := by exact h.out_

/-! ### Types -/
structure TyI where
  d : TypeDesc
  size : Nat
  bytes : Nat
  zv : AV
  eq : List Nat
def TyI.agg (i : TyI) : Bool := match i.d with | .struct _ | .array _ _ => true | _ => false
/-- Two cells of a kind that is compared by value. -/
def kindB : IntKind → IntKind → Bool
  | .i8, .i8 | .i16, .i16 | .i32, .i32 | .i64, .i64 | .u8, .u8 | .u16, .u16 | .u32, .u32 | .u64, .u64 => true
  | _, _ => false
def ceq : Nat → AV → AV → Option Bool
  | 0, .int k a, .int k' b => match kindB k k' with | true => some (a == b) | false => none
  | 1, .bool a, .bool b => some (a == b)
  | 2, .str a, .str b => some (a == b)
  | _, _, _ => none
def cseq : List Nat → List AV → List AV → Option Bool
  | [], [], [] => some true
  | k :: ks, x :: xs, y :: ys => match ceq k x y with
    | some a => match cseq ks xs ys with
      | some b => some (a && b)
      | none => none
    | none => none
  | _, _, _ => none
structure TyOk (P : Program) (Ty : TypeId → Option TyI) : Prop where
  u : ∀ t i, Ty t = some i → P.underlying t = some i.d
  i : ∀ t i, Ty t = some i → ∃ inf, P.info? t = some inf ∧ inf.size = i.size ∧ inf.bytes = i.bytes ∧ ∃ z, inf.zero = some z ∧ ∀ g, VR g i.zv z
  eq : ∀ t i, Ty t = some i → i.eq ≠ [] → P.eqGuardType P.depth t = false ∧
    ∀ g xs ys X Y b w, cseq i.eq xs ys = some b → CL g xs X → CL g ys Y → (Op.equal t (.agg X.toArray) (.agg Y.toArray)).run P w = .ok b w

def AV.cells : AV → List AV
  | .agg cs => cs
  | v => [v]
/-- A value that lies in cells. -/
def AV.okv : AV → Bool
  | .tup _ => false
  | .raw v => v.oneCell'
  | _ => true

/-! ### Operands -/
def constAV : Value → AV
  | .int k n => .int k n
  | .bool b => .bool b
  | .string s => .str s.data.toList
  | .pointer none => .nilp
  | .slice none 0 0 => .os 0 none 0 []
  | v => .raw v
theorem constAV_ok (g : Gh) (v : Value) : VR g (constAV v) v := by
  unfold constAV
  split
  · exact .int _ _
  · exact .bool _
  · exact .str _ _ rfl
  · exact .nilp
  · exact .os0 _ _
  · exact .raw _

def look : List (Nat × TV) → Nat → Option TV
  | [], _ => none
  | (t', v) :: r, t => match Nat.beq t' t with | true => some v | false => look r t

def ev (T : Nat → Option TV) : Operand → Option TV
  | .tmp t => T t
  | .const v => some (.v (constAV v))
  | .func f => some (.v (.fn (.func f) [] []))
  | .global _ => none

def nth : List AV → Nat → Option AV
  | [], _ => none
  | v :: _, 0 => some v
  | _ :: r, n + 1 => nth r n
theorem nth_eq : ∀ (l : List AV) (n : Nat), nth l n = l[n]?
  | [], _ => rfl
  | _ :: _, 0 => rfl
  | _ :: r, n + 1 => nth_eq r n
def own? : List (List AV) → Nat → Option (List AV)
  | [], _ => none
  | v :: _, 0 => some v
  | _ :: r, n + 1 => own? r n
theorem own?_eq : ∀ (l : List (List AV)) (n : Nat), own? l n = l[n]?
  | [], _ => rfl
  | _ :: _, 0 => rfl
  | _ :: r, n + 1 => own?_eq r n
/-- The cells from 'off' on replaced. -/
def splice {α : Type} : List α → Nat → List α → List α
  | cs, _, [] => cs
  | cs, off, v :: vs => splice (cs.set off v) (off + 1) vs

/-- A variable of the type, out of a row. -/
def ld (i : TyI) (row : List AV) (off : Nat) (K : AV → Prop) : Prop :=
  match i.agg with
  | true => match Nat.beq off 0 && Nat.beq i.size row.length with
    | true => K (.agg row)
    | false => match Nat.ble (off + i.size) row.length with
      | true => K (.agg ((row.drop off).take i.size))
      | false => False
  | false => match nth row off with
    | some v => K v
    | none => False

/-- Bits of integers. -/
@[irreducible] def bitI (op : BinOp) (k : IntKind) (x y : Int) : Int :=
  match op with
  | .and => k.wrap (BitVec.ofInt k.bits x &&& BitVec.ofInt k.bits y).toNat
  | .or => k.wrap (BitVec.ofInt k.bits x ||| BitVec.ofInt k.bits y).toNat
  | .xor => k.wrap (BitVec.ofInt k.bits x ^^^ BitVec.ofInt k.bits y).toNat
  | _ => k.wrap (BitVec.ofInt k.bits x &&& ~~~ BitVec.ofInt k.bits y).toNat
@[irreducible] def shlI (k : IntKind) (a b : Int) : Int := k.wrap (a * 2 ^ min b.toNat k.bits)
@[irreducible] def shrI (k : IntKind) (a b : Int) : Int := a.fdiv (2 ^ min b.toNat k.bits)

def abinI (op : BinOp) (k : IntKind) (a b : Int) (K : AV → Prop) : Prop :=
  match op with
  | .add => IK k (a + b) fun n => K (.int k n)
  | .sub => IK k (a - b) fun n => K (.int k n)
  | .mul => IK k (a * b) fun n => K (.int k n)
  | .quo => NK (b ≠ 0) (IK k (a.tdiv b) fun n => K (.int k n))
  | .rem => NK (b ≠ 0) (K (.int k (a.tmod b)))
  | .and => K (.int k (bitI .and k a b))
  | .or => K (.int k (bitI .or k a b))
  | .xor => K (.int k (bitI .xor k a b))
  | .andNot => K (.int k (bitI .andNot k a b))
  | .eql => BK (a == b) fun c => K (.bool c)
  | .neq => BK (a != b) fun c => K (.bool c)
  | .lss => BK (decide (a < b)) fun c => K (.bool c)
  | .leq => BK (decide (a ≤ b)) fun c => K (.bool c)
  | .gtr => BK (decide (a > b)) fun c => K (.bool c)
  | .geq => BK (decide (a ≥ b)) fun c => K (.bool c)
  | _ => False

def abinS (op : BinOp) (a b : List UInt8) (K : AV → Prop) : Prop :=
  match op with
  | .add => NK (a.length + b.length ≤ 9223372036854775807) (K (.str (a ++ b)))
  | .eql => BK (a == b) fun c => K (.bool c)
  | .neq => BK (a != b) fun c => K (.bool c)
  | .lss => BK (Op.bytesLess a b) fun c => K (.bool c)
  | .leq => BK (Op.bytesLess a b || a == b) fun c => K (.bool c)
  | .gtr => BK (!(Op.bytesLess a b || a == b)) fun c => K (.bool c)
  | .geq => BK (!Op.bytesLess a b) fun c => K (.bool c)
  | _ => False

/-- Equality of what is neither integer nor string. -/
def aeq (i : TyI) (x y : AV) (K : Bool → Prop) : Prop :=
  match i.d, x, y with
  | .bool, .bool a, .bool b => BK (a == b) K
  | .pointer _, .nilp, .nilp => K true
  | .pointer _, .gp _ _, .nilp => K false
  | .pointer _, .nilp, .gp _ _ => K false
  | _, .agg xs, .agg ys => match i.eq with
    | [] => False
    | k :: ks => match cseq (k :: ks) xs ys with
      | some b => BK b K
      | none => False
  | _, _, _ => False

def abin (Ty : TypeId → Option TyI) (op : BinOp) (t : TypeId) (x y : AV) (K : AV → Prop) : Prop :=
  match x, y with
  | .int k a, .int k' b => match op with
    | .shl => NK (0 ≤ b) (K (.int k (shlI k a b)))
    | .shr => NK (0 ≤ b) (K (.int k (shrI k a b)))
    | op => match kindB k k' with
      | true => abinI op k a b K
      | false => False
  | .str a, .str b => abinS op a b K
  | x, y => match Ty t with
    | some i => match op with
      | .eql => aeq i x y fun c => K (.bool c)
      | .neq => aeq i x y fun c => K (.bool (!c))
      | _ => False
    | none => False

def Exit.isNormal : Exit → Bool
  | .normal => true
  | _ => false
end Ab
end Go.Proofs.YtpmigkbcldffeaaGreatDoor

/- One operation of the abstract machine. -/
namespace Go.Proofs.YtpmigkbcldffeaaGreatDoor
namespace Ab

def AO.setRow (A : AO) (p : Nat) (cs : List AV) : AO := { A with rows := fun q => if q = p then some cs else A.rows q }

def AO.setTy (A : AO) (p : Nat) (e : TypeId) : AO := { A with tys := fun q => if q = p then some e else A.tys q }
def AO.setMap (A : AO) (m : Nat) (es : List (AV × AV)) : AO := { A with maps := fun q => if q = m then some es else A.maps q }

/-! ### Maps: the keys are strings or integers -/
def keyEq : AV → AV → Option Bool
  | .str a, .str b => some (a == b)
  | .int k a, .int k' b => match kindB k k' with | true => some (a == b) | false => none
  | .bool a, .bool b => some (a == b)
  | _, _ => none
def keyKind : TypeDesc → AV → Bool
  | .string, .str _ => true
  | .int k, .int k' _ => kindB k k'
  | .bool, .bool _ => true
  | _, _ => false
def mfind (k : AV) : List (AV × AV) → Nat → Option (Option (Nat × AV))
  | [], _ => some none
  | (x, v) :: r, i => match keyEq k x with
    | some true => some (some (i, v))
    | some false => mfind k r (i + 1)
    | none => none
def mval (z : AV) : Option (Nat × AV) → AV
  | some (_, v) => v
  | none => z
def mres (ok : Bool) (z : AV) (r : Option (Nat × AV)) : AV :=
  match ok with
  | false => mval z r
  | true => .tup [mval z r, .bool r.isSome]
def mput (es : List (AV × AV)) (k v : AV) : Option (Nat × AV) → List (AV × AV)
  | some (i, _) => es.set i (k, v)
  | none => es ++ [(k, v)]
/-- A map that is known. -/
structure MK (A : AO) (m : Nat) (k : AV) (K : List (AV × AV) → Option (Nat × AV) → Prop) : Prop where in_ ::
  out_ : ∃ es r, A.maps m = some es ∧ mfind k es 0 = some r ∧ K es r
theorem MK.mk {A : AO} {m : Nat} {k : AV} {K : List (AV × AV) → Option (Nat × AV) → Prop} (es : List (AV × AV)) (r : Option (Nat × AV)) (h : A.maps m = some es) (hr : mfind k es 0 = some r) (hk : K es r) : MK A m k K := ⟨⟨es, r, h, hr, hk⟩⟩

def evs (T : Nat → Option TV) : List Operand → Option (List AV)
  | [] => some []
  | x :: xs => match ev T x with
    | some (.v a) => match evs T xs with
      | some az => some (a :: az)
      | none => none
    | _ => none

def fieldOf : List Field → Nat → Option Field
  | [], _ => none
  | f :: _, 0 => some f
  | _ :: r, n + 1 => fieldOf r n

/-- Where part k of a struct or an array lies, and how many cells it has. -/
def place (Ty : TypeId → Option TyI) (i : TyI) (k : Nat) : Option (Nat × Nat) :=
  match i.d with
  | .struct fs => match fieldOf fs.toList k with
    | some f => match Ty f.type with
      | some j => some (f.offset, j.size)
      | none => none
    | none => none
  | .array _ e => match Ty e with
    | some j => some (k * j.size, j.size)
    | none => none
  | _ => none

def allTy (Ty : TypeId → Option TyI) : List Field → Bool
  | [] => true
  | f :: r => match Ty f.type with
    | some _ => allTy Ty r
    | none => false
def fieldsOk (Ty : TypeId → Option TyI) (i : TyI) : Bool :=
  match i.d with
  | .struct fs => allTy Ty fs.toList
  | .array _ e => (Ty e).isSome
  | _ => false

def evps (T : Nat → Option TV) : List (Nat × Operand) → Option (List (Nat × AV))
  | [] => some []
  | (k, x) :: xs => match ev T x with
    | some (.v a) => match evps T xs with
      | some az => some ((k, a) :: az)
      | none => none
    | _ => none

/-- The parts of a literal are laid. -/
def afill (pl : Nat → Option (Nat × Nat)) (cells : List AV) : List (Nat × AV) → (List AV → Prop) → Prop
  | [], K => K cells
  | (k, a) :: rest, K => match pl k with
    | some (off, size) => match a.okv with
      | true => match Nat.beq a.cells.length size with
        | true => match Nat.ble (off + size) cells.length with
          | true => afill pl (splice cells off a.cells) rest K
          | false => False
        | false => False
      | false => False
    | none => False

def rep : Nat → List AV → List AV
  | 0, _ => []
  | n + 1, z => z ++ rep n z
/-- Cut into rows. -/
def chop (sz : Nat) : Nat → List AV → List (List AV)
  | 0, _ => []
  | n + 1, l => l.take sz :: chop sz n (l.drop sz)

def st (i : TyI) (row : List AV) (off : Nat) (a : AV) (K : List AV → Prop) : Prop :=
  match a.okv with
  | true => match Nat.beq a.cells.length i.size with
    | true => match Nat.beq off 0 && Nat.beq i.size row.length with
      | true => K a.cells
      | false => match Nat.ble (off + i.size) row.length with
        | true => K (splice row off a.cells)
        | false => False
    | false => False
  | false => False

/-- A part of an aggregate. -/
def part (i : TyI) (cs : List AV) (off : Nat) (K : AV → Prop) : Prop :=
  match i.agg with
  | true => match Nat.ble (off + i.size) cs.length with
    | true => K (.agg ((cs.drop off).take i.size))
    | false => False
  | false => match nth cs off with
    | some v => K v
    | none => False

/-- Bytes. -/
def bytesAV (l : List UInt8) : List (List AV) := l.map fun c => [.int .u8 c.toNat]
structure YK (rows : List (List AV)) (K : List UInt8 → Prop) : Prop where in_ ::
  out_ : ∃ l, rows = bytesAV l ∧ K l
theorem YK.mk {rows : List (List AV)} {K : List UInt8 → Prop} (l : List UInt8) (h : rows = bytesAV l) (k : K l) : YK rows K := by refine ⟨?_⟩; exact ⟨l, h, k⟩
theorem YK.out {rows : List (List AV)} {K : List UInt8 → Prop} (h : YK rows K) : ∃ l, rows = bytesAV l ∧ K l := by exact h.out_

def undefTV : TV := .v (.raw undef)

def aconv (Ty : TypeId → Option TyI) (i j : TyI) (a : AV) (K : AV → Prop) : Prop :=
  match j.d, a with
  | .int k, .int _ n => IK k n fun m => K (.int k m)
  | .string, .str s => K (.str s)
  | .string, .sl 1 _ rows => match i.d with
    | .slice e => match Ty e with
      | some x => match x.d with
        | .int .u8 => YK rows fun l => K (.str l)
        | _ => False
      | none => False
    | _ => False
  | _, _ => False

/-- s[lo:hi] -/
def bounds (lo hi : Option AV) (n : Nat) (K : Nat → Nat → Prop) : Prop :=
  match lo, hi with
  | none, none => K 0 n
  | some (.int _ l), none => NK (0 ≤ l ∧ l ≤ n) (K l.toNat n)
  | none, some (.int _ h) => NK (0 ≤ h ∧ h ≤ n) (K 0 h.toNat)
  | some (.int _ l), some (.int _ h) => NK (0 ≤ h ∧ h ≤ n) (NK (0 ≤ l ∧ l ≤ h) (K l.toNat h.toNat))
  | _, _ => False

def evo (T : Nat → Option TV) : Option Operand → Option (Option AV)
  | none => some none
  | some x => match ev T x with
    | some (.v a) => some (some a)
    | _ => none

def asl (Ty : TypeId → Option TyI) (i : TyI) (x : TV) (lo hi mx : Option AV) (K : TV → Prop) : Prop :=
  match x, mx with
  | .v (.str s), none => match i.d with
    | .string => bounds lo hi s.length fun l h => K (.v (.str ((s.take h).drop l)))
    | _ => False
  | .v (.sl sz n rows), none => match i.d with
    | .slice e => match Ty e with
      | some j => match Nat.beq j.size sz with
        | true => bounds lo hi n fun l h => K (.v (.sl sz (h - l) ((rows.take h).drop l)))
        | false => False
      | none => False
    | _ => False
  | .v (.os sz _ _ rows), none => match i.d with
    | .slice e => match Ty e with
      | some j => match Nat.beq j.size sz with
        | true => bounds lo hi rows.length fun l h => K (.v (.sl sz (h - l) ((rows.take h).drop l)))
        | false => False
      | none => False
    | _ => False
  | .v (.sl _ _ _), some (.int _ 0) => match i.d, lo, hi with
    | .slice e, none, some (.int _ 0) => match Ty e with
      | some _ => K (.v (.os 0 none 0 []))
      | none => False
    | _, _, _ => False
  | .v (.gs sz p off n), none => match i.d with
    | .slice e => match Ty e with
      | some j => match Nat.beq j.size sz with
        | true => bounds lo hi n fun l h => NK (l < n) (K (.v (.gs sz p (off + l * sz) (h - l))))
        | false => False
      | none => False
    | _ => False
  | .lp k off, none => match i.d with
    | .array n e => match Ty e with
      | some j => bounds lo hi n fun l h => NK (l < n) (K (.ls k (off + l * j.size) (h - l) (n - l)))
      | none => False
    | _ => False
  | _, _ => False

def apos (Ty : TypeId → Option TyI) (i : TyI) (x : TV) (ix : Int) (K : TV → Prop) : Prop :=
  match i.d with
  | .array n e => match Ty e with
    | some j => match x with
      | .lp k off => NK (0 ≤ ix ∧ ix < n) (K (.lp k (off + ix.toNat * j.size)))
      | .v (.gp p off) => NK (0 ≤ ix ∧ ix < n) (K (.v (.gp p (off + ix.toNat * j.size))))
      | .v (.ip cells) => NK (0 ≤ ix ∧ ix < n) (K (.v (.ip (cells.drop (ix.toNat * j.size)))))
      | _ => False
    | none => False
  | .slice e => match Ty e with
    | some j => match x with
      | .v (.sl sz _ rows) => match Nat.beq j.size sz with
        | true => RK rows ix fun row => K (.v (.ip row))
        | false => False
      | .v (.os sz _ _ rows) => match Nat.beq j.size sz with
        | true => RK rows ix fun row => K (.v (.ip row))
        | false => False
      | .v (.gs sz p off n) => match Nat.beq j.size sz with
        | true => NK (0 ≤ ix ∧ ix < n) (K (.v (.gp p (off + ix.toNat * sz))))
        | false => False
      | .ls k off n _ => NK (0 ≤ ix ∧ ix < n) (K (.lp k (off + ix.toNat * j.size)))
      | _ => False
    | none => False
  | _ => False

def aindex (Ty : TypeId → Option TyI) (i : TyI) (x : AV) (ix : Int) (K : AV → Prop) : Prop :=
  match i.d, x with
  | .array n e, .agg cs => match Ty e with
    | some j => NK (0 ≤ ix ∧ ix < n) (part j cs (ix.toNat * j.size) K)
    | none => False
  | .string, .str s => SK s ix fun c => K (.int .u8 c.toNat)
  | _, _ => False

def alen (i : TyI) (x : TV) (K : Int → Prop) : Prop :=
  match i.d with
  | .array n _ => K n
  | .string => match x with
    | .v (.str s) => K s.length
    | _ => False
  | .slice _ => match x with
    | .v (.sl _ n _) => K n
    | .v (.os _ _ _ rows) => K rows.length
    | .v (.gs _ _ _ n) => K n
    | .ls _ _ n _ => K n
    | _ => False
  | _ => False

def aop (P : Program) (Ty : TypeId → Option TyI) (nx : Nat) (T : Nat → Option TV) (O : Nat → Option (List AV)) (A : AO) (o : Op) (K : TV → Eff → Prop) : Prop :=
  match o with
  | .move x => match ev T x with
    | some v => K v .nop
    | none => False
  | .assign x => match ev T x with
    | some v => K v .nop
    | none => False
  | .pick c a b => match ev T c with
    | some (.v (.bool true)) => match ev T a with
      | some v => K v .nop
      | none => False
    | some (.v (.bool false)) => match ev T b with
      | some v => K v .nop
      | none => False
    | _ => False
  | .alloc e => match Ty e with
    | some i => match i.zv.okv with
      | true => K (.lp nx 0) (.own nx i.zv.cells)
      | false => False
    | none => False
  | .box _ x => match ev T x with
    | some (.v a) => match a.okv with
      | true => K (.lp nx 0) (.own nx a.cells)
      | false => False
    | _ => False
  | .build t parts => match Ty t with
    | some i => match evps T parts.toList with
      | some ps => match fieldsOk Ty i with
        | true => match i.zv.okv with
          | true => afill (place Ty i) i.zv.cells ps fun cells => K (.v (.agg cells)) .nop
          | false => False
        | false => False
      | none => False
    | none => False
  | .buildSlice t n parts => match Ty t with
    | some i => match i.d with
      | .slice e => match Ty e with
        | some j => match evps T parts.toList with
          | some ps => match Nat.ble (n * j.size) 16777216 with
            | true => match Nat.beq j.zv.cells.length j.size with
              | true => match j.zv.okv with
                | true => afill (fun k => some (k * j.size, j.size)) (rep n j.zv.cells) ps fun cells => K (.v (.os j.size none n (chop j.size n cells))) .nop
                | false => False
              | false => False
            | false => False
          | none => False
        | none => False
      | _ => False
    | none => False
  | .load t x => match Ty t with
    | some i => match ev T x with
      | some (.lp k off) => match O k with
        | some row => ld i row off fun v => K (.v v) .nop
        | none => False
      | some (.v (.gp p off)) => GK A p fun row => ld i row off fun v => K (.v v) .nop
      | some (.v (.ip cells)) => ld i cells 0 fun v => K (.v v) .nop
      | _ => False
    | none => False
  | .store t x y => match Ty t with
    | some i => match ev T y with
      | some (.v a) => match ev T x with
        | some (.lp k off) => match O k with
          | some row => st i row off a fun row' => K undefTV (.own k row')
          | none => False
        | some (.v (.gp p off)) => GK A p fun row => st i row off a fun row' => K undefTV (.out (A.setRow p row'))
        | _ => False
      | _ => False
    | none => False
  | .nilCheck x => match ev T x with
    | some (.lp k off) => K (.lp k off) .nop
    | some (.v (.gp p off)) => K (.v (.gp p off)) .nop
    | some (.v (.ip c)) => K (.v (.ip c)) .nop
    | _ => False
  | .binOp op t x y _ => match ev T x with
    | some (.v a) => match ev T y with
      | some (.v b) => abin Ty op t a b fun v => K (.v v) .nop
      | _ => False
    | _ => False
  | .unOp op _ x => match ev T x with
    | some (.v (.bool b)) => match op with
      | .not => K (.v (.bool (!b))) .nop
      | _ => False
    | some (.v (.int k n)) => match op with
      | .neg => IK k (0 - n) fun m => K (.v (.int k m)) .nop
      | _ => False
    | _ => False
  | .convert s d x => match Ty s with
    | some i => match Ty d with
      | some j => match ev T x with
        | some (.v a) => aconv Ty i j a fun v => K (.v v) .nop
        | some (.ls k off n _) => match i.d, j.d with
          | .slice e, .string => match Ty e with
            | some z => match z.d with
              | .int .u8 => match O k with
                | some row => NK (off + n ≤ row.length) (YK (chop 1 n (row.drop off)) fun l => K (.v (.str l)) .nop)
                | none => False
              | _ => False
            | none => False
          | _, _ => False
        | _ => False
      | none => False
    | none => False
  | .makeInterface t x => match Ty t with
    | some i => match i.d with
      | .interface _ => False
      | _ => match ev T x with
        | some (.v a) => K (.v (.iface t a)) .nop
        | _ => False
    | none => False
  | .makeFunc f first cap => match evs T first.toList with
    | some fs => match evs T cap.toList with
      | some cs => K (.v (.fn f fs cs)) .nop
      | none => False
    | none => False
  | .slice t x lo hi mx => match Ty t with
    | some i => match ev T x with
      | some v => match evo T lo with
        | some l => match evo T hi with
          | some h => match evo T mx with
            | some m => asl Ty i v l h m fun v => K v .nop
            | none => False
          | none => False
        | none => False
      | none => False
    | none => False
  | .fieldAddr s x f => match Ty s with
    | some i => match i.d with
      | .struct _ => match place Ty i f with
        | some (off, size) => match Nat.beq size 0 with
          | false => match ev T x with
            | some (.lp k o) => K (.lp k (o + off)) .nop
            | some (.v (.gp p o)) => K (.v (.gp p (o + off))) .nop
            | some (.v (.ip cells)) => K (.v (.ip (cells.drop off))) .nop
            | _ => False
          | true => False
        | none => False
      | _ => False
    | none => False
  | .field s x f => match Ty s with
    | some i => match i.d with
      | .struct fs => match fieldOf fs.toList f with
        | some fd => match Ty fd.type with
          | some j => match ev T x with
            | some (.v (.agg cs)) => part j cs fd.offset fun v => K (.v v) .nop
            | _ => False
          | none => False
        | none => False
      | _ => False
    | none => False
  | .indexAddr t x ix => match Ty t with
    | some i => match ev T ix with
      | some (.v (.int _ n)) => match ev T x with
        | some v => apos Ty i v n fun v => K v .nop
        | none => False
      | _ => False
    | none => False
  | .index t x ix => match Ty t with
    | some i => match ev T ix with
      | some (.v (.int _ n)) => match ev T x with
        | some (.v a) => aindex Ty i a n fun v => K (.v v) .nop
        | _ => False
      | _ => False
    | none => False
  | .lookup t x y ok => match Ty t with
    | some i => match i.d with
      | .map kt et => match Ty kt with
        | some kd => match Ty et with
          | some j => match ev T x with
            | some (.v (.map m)) => match ev T y with
              | some (.v k) => match keyKind kd.d k with
                | true => MK A m k fun _ r => K (.v (mres ok j.zv r)) .nop
                | false => False
              | _ => False
            | _ => False
          | none => False
        | none => False
      | _ => False
    | none => False
  | .mapUpdate t x y z => match Ty t with
    | some i => match i.d with
      | .map kt _ => match Ty kt with
        | some kd => match ev T x with
          | some (.v (.map m)) => match ev T y with
            | some (.v k) => match ev T z with
              | some (.v v) => match keyKind kd.d k with
                | true => MK A m k fun es r => K undefTV (.out (A.setMap m (mput es k v r)))
                | false => False
              | _ => False
            | _ => False
          | _ => False
        | none => False
      | _ => False
    | none => False
  | .insert t x y z => match Ty t with
    | some i => match i.d with
      | .map kt _ => match Ty kt with
        | some kd => match ev T x with
          | some (.v (.map m)) => match ev T y with
            | some (.v k) => match ev T z with
              | some (.v v) => match keyKind kd.d k with
                | true => MK A m k fun es r => K undefTV (.out (A.setMap m (mput es k v r)))
                | false => False
              | _ => False
            | _ => False
          | _ => False
        | none => False
      | _ => False
    | none => False
  | .typeAssert x _ t ok => match Ty t with
    | some i => match i.d with
      | .interface _ => False
      | _ => match ev T x with
        | some (.v (.iface t' v)) => match Nat.beq t' t with
          | true => match ok with
            | true => K (.v (.tup [v, .bool true])) .nop
            | false => K (.v v) .nop
          | false => match ok with
            | true => K (.v (.tup [i.zv, .bool false])) .nop
            | false => False
        | _ => False
    | none => False
  | .extract x n => match ev T x with
    | some (.v (.tup vs)) => match nth vs n with
      | some v => K (.v v) .nop
      | none => False
    | _ => False
  | .call c => match c.callee with
    | .value f => match ev T f with
      | some (.v (.fn (.func g) first cap)) => match evs T c.args.toList with
        | some az => PK P g (first ++ az ++ cap) fun v => K (.v v) .nop
        | none => False
      | _ => False
    | .builtin .len => match c.args.toList with
      | [x] => match c.argTypes.toList with
        | t :: _ => match Ty t with
          | some i => match ev T x with
            | some v => alen i v fun n => K (.v (.int .i64 n)) .nop
            | none => False
          | none => False
        | [] => False
      | _ => False
    | .builtin .clear => match c.args.toList with
      | [x] => match c.argTypes.toList with
        | [t] => match Ty t with
          | some i => match i.d with
            | .slice e => match Ty e with
              | some j => match ev T x with
                | some (.v (.gs sz p off n)) => match j.zv.okv && (Nat.beq j.zv.cells.length sz && Nat.blt 0 sz) with
                  | true => GK A p fun row => NK (0 < n ∧ off + n * sz ≤ row.length) (K (.v (.tup [])) (.out (A.setRow p (splice row off (rep n j.zv.cells)))))
                  | false => False
                | _ => False
              | none => False
            | _ => False
          | none => False
        | _ => False
      | _ => False
    | .builtin .copy => match c.args.toList with
      | [x, y] => match c.argTypes.toList with
        | t :: _ => match Ty t with
          | some i => match i.d with
            | .slice e => match Ty e with
              | some j => match Nat.beq j.size 1 with
                | true => match ev T x with
                  | some (.ls k off n _) => match ev T y with
                    | some (.v (.str s)) => match O k with
                      | some row => NK (off + n ≤ row.length) (K (.v (.int .i64 (min s.length n : Nat))) (.own k (splice row off ((s.take n).map fun c => .int .u8 c.toNat))))
                      | none => False
                    | _ => False
                  | _ => False
                | false => False
              | none => False
            | _ => False
          | none => False
        | [] => False
      | _ => False
    | .builtin .min => match c.args.toList with
      | [x, y] => match ev T x with
        | some (.v (.int k a)) => match ev T y with
          | some (.v (.int _ b)) => BK (decide (b < a)) fun c => K (.v (.int k (match c with | true => b | false => a))) .nop
          | _ => False
        | _ => False
      | _ => False
    | .builtin .max => match c.args.toList with
      | [x, y] => match ev T x with
        | some (.v (.int k a)) => match ev T y with
          | some (.v (.int _ b)) => BK (decide (b > a)) fun c => K (.v (.int k (match c with | true => b | false => a))) .nop
          | _ => False
        | _ => False
      | _ => False
    | _ => False
  | _ => False
end Ab
end Go.Proofs.YtpmigkbcldffeaaGreatDoor

/- The operations that only read, against the model. -/
namespace Go.Proofs.YtpmigkbcldffeaaGreatDoor
namespace Ab
section
variable {P : Program} {Ty : TypeId → Option TyI}

theorem TyOk.size (ty : TyOk P Ty) {t : TypeId} {i : TyI} (h : Ty t = some i) (w : World) : (sizeOf t).run P w = .ok i.size w := by
  obtain ⟨inf, h1, h2, _⟩ := ty.i t i h
  simp [sizeOf, typeInfo, h1, h2]
theorem TyOk.under (ty : TyOk P Ty) {t : TypeId} {i : TyI} (h : Ty t = some i) (w : World) : (underlying t).run P w = .ok i.d w := run_underlying (ty.u t i h) w
theorem TyOk.isAgg (ty : TyOk P Ty) {t : TypeId} {i : TyI} (h : Ty t = some i) (w : World) : (isAgg t).run P w = .ok i.agg w := by
  unfold Go.isAgg TyI.agg
  rw [Sem.run_bind, ty.under h w]
  cases i.d <;> rfl
theorem TyOk.zero (ty : TyOk P Ty) {t : TypeId} {i : TyI} (h : Ty t = some i) : ∃ z, (∀ g, VR g i.zv z) ∧ ∀ w, (zeroValue t).run P w = .ok z w := by
  obtain ⟨inf, h1, _, _, z, h2, h3⟩ := ty.i t i h
  exact ⟨z, h3, fun w => by simp [zeroValue, typeInfo, h1, h2]⟩

theorem addr_add (b o n : Nat) : (⟨b, o, none⟩ : Addr).add n = ⟨b, o + n, none⟩ := by
  unfold Addr.add; split
  · subst_vars; rfl
  · rfl

/-- Cells of a world. -/
def cellsAt (w : World) (b o : Nat) (L : List Value) : Prop := ∀ j V, L[j]? = some V → w.cell? ⟨b, o + j, none⟩ = some V

theorem cellsAt.drop {w : World} {b o : Nat} {L : List Value} (h : cellsAt w b o L) (n : Nat) : cellsAt w b (o + n) (L.drop n) := fun j V hV => by
  rw [List.getElem?_drop] at hV
  rw [Nat.add_assoc]; exact h _ _ hV
theorem cellsAt.take {w : World} {b o : Nat} {L : List Value} (h : cellsAt w b o L) (n : Nat) : cellsAt w b o (L.take n) := fun j V hV => by
  rw [List.getElem?_take] at hV
  split at hV
  · exact h _ _ hV
  · cases hV
theorem RowAt.cells {g : Gh} {w : World} {b : Nat} {cs : List AV} (h : RowAt g w b cs) : ∃ L, CL g cs L ∧ cellsAt w b 0 L := by
  obtain ⟨L, T, hb, hL⟩ := h
  refine ⟨L, hL, fun j V hV => ?_⟩
  rw [cell_of_row _ _ _ _ _ _ hb]; simpa using hV

theorem run_loadCells_at (w : World) (b o : Nat) (L : List Value) (h : cellsAt w b o L) : (loadCells ⟨b, o, none⟩ L.length).run P w = .ok L.toArray w :=
  run_loadCells_list w ⟨b, o, none⟩ L fun j v hv => by rw [addr_add]; exact h j v hv

theorem ld_ok (ty : TyOk P Ty) {t : TypeId} {i : TyI} (hi : Ty t = some i) {row : List AV} {off : Nat} {K : AV → Prop} (h : ld i row off K) :
    ∃ v, K v ∧ ∀ g L w b o, CL g row L → cellsAt w b o L → ∃ V, (Instr.loadAt t (.pointer (some ⟨b, o + off, none⟩))).run P w = .ok V w ∧ VR g v V := by
  unfold ld at h
  cases ha : i.agg with
  | true =>
    rw [ha] at h
    simp only at h
    split at h
    · rename_i hw
      rw [Bool.and_eq_true] at hw
      have w1 := Nat.eq_of_beq_eq_true hw.1
      have w2 := Nat.eq_of_beq_eq_true hw.2
      refine ⟨_, h, fun g L w b o hL hc => ⟨.agg L.toArray, ?_, VR.mk_agg hL⟩⟩
      have := run_loadCells_at (P := P) w b o L hc
      rw [hL.len, ← w2] at this
      subst w1
      simp only [Instr.loadAt, Instr.sureAddr, loadVar, Sem.run_bind, Sem.run_pure, Result.andThen_ok, ty.isAgg hi, ha, if_true, ty.size hi, Nat.add_zero, this]
    split at h
    · rename_i hle
      have hle := Nat.le_of_ble_eq_true hle
      refine ⟨_, h, fun g L w b o hL hc => ?_⟩
      have hlen : ((L.drop off).take i.size).length = i.size := by simp [hL.len]; omega
      refine ⟨.agg ((L.drop off).take i.size).toArray, ?_, VR.mk_agg ((hL.drop off).take i.size)⟩
      have := run_loadCells_at (P := P) w b (o + off) ((L.drop off).take i.size) ((hc.drop off).take i.size)
      rw [hlen] at this
      simp only [Instr.loadAt, Instr.sureAddr, loadVar, Sem.run_bind, Sem.run_pure, Result.andThen_ok, ty.isAgg hi, ha, if_true, ty.size hi, this]
    · exact h.elim
  | false =>
    rw [ha] at h
    simp only at h
    split at h
    · rename_i v hv
      rw [nth_eq] at hv
      refine ⟨_, h, fun g L w b o hL hc => ?_⟩
      obtain ⟨V, hV, hr⟩ := hL.toVL.getElem? hv
      refine ⟨V, ?_, hr⟩
      simp [Instr.loadAt, Instr.sureAddr, loadVar, ty.isAgg hi, ha, hc _ _ hV]
    · exact h.elim

theorem part_ok (ty : TyOk P Ty) {t : TypeId} {i : TyI} (hi : Ty t = some i) {cs : List AV} {off : Nat} {K : AV → Prop} (h : part i cs off K) :
    ∃ v, K v ∧ ∀ g (L : List Value) w, CL g cs L → ∃ V, (Go.part t L.toArray off).run P w = .ok V w ∧ VR g v V := by
  unfold part at h
  cases ha : i.agg with
  | true =>
    rw [ha] at h
    simp only at h
    split at h
    · rename_i hle
      refine ⟨_, h, fun g L w hL => ⟨.agg ((L.drop off).take i.size).toArray, ?_, VR.mk_agg ((hL.drop off).take i.size)⟩⟩
      simp only [Go.part, Sem.run_bind, ty.isAgg hi, Result.andThen_ok, ha, if_true, ty.size hi, Sem.run_pure]
      congr 2
      apply Array.ext'
      simp [List.extract_eq_take_drop]
    · exact h.elim
  | false =>
    rw [ha] at h
    simp only at h
    split at h
    · rename_i v hv
      rw [nth_eq] at hv
      refine ⟨_, h, fun g L w hL => ?_⟩
      obtain ⟨V, hV, hr⟩ := hL.toVL.getElem? hv
      exact ⟨V, by simp [Go.part, ty.isAgg hi, ha, hV], hr⟩
    · exact h.elim

variable {C : Cx}

def EffOk (O : Nat → Option (List AV)) (nx : Nat) : Eff → Prop
  | .own i _ => O i ≠ none ∨ i = nx
  | _ => True
/-- What an operation does, wherever at least so much is known. -/
def OpRun (P : Program) (C : Cx) (o : Oper) (T : Nat → Option TV) (O : Nat → Option (List AV)) (A : AO) (v : TV) (eff : Eff) : Prop :=
  ∀ T' O' A', (∀ t x, T t = some x → T' t = some x) → (∀ i x, O i = some x → O' i = some x) → A.sub A' → (∀ A1, eff = .out A1 → A' = A) → (∀ i cs, eff = .own i cs → O i = none → O' i = none) → (∀ t, o.dst = some t → t < C.N) →
  ∀ g ob a w, FR C T' O' A' g ob a w → ∀ Q, o.wp P a w (fun a' w' => ∃ g' ob', FR C (updT T' o.dst v) (eff.O O') (eff.A A') g' ob' a' w') Q

def OpOk (P : Program) (C : Cx) (nx : Nat) (o : Oper) (T : Nat → Option TV) (O : Nat → Option (List AV)) (A : AO) (v : TV) (eff : Eff) : Prop := EffOk O nx eff ∧ OpRun P C o T O A v eff

variable {T : Nat → Option TV} {O : Nat → Option (List AV)} {A : AO}

theorem FR.ev {T' : Nat → Option TV} {O' : Nat → Option (List AV)} {g : Gh} {ob : Nat → Nat} {a : Act} {w : World} (h : FR C T' O' A g ob a w) (hT : ∀ t x, T t = some x → T' t = some x)
    {x : Operand} {v : TV} (hx : ev T x = some v) : TR g O' ob v (a.eval x) := by
  cases x with
  | tmp t =>
    obtain ⟨V, h1, h2⟩ := h.tm t v (hT _ _ hx)
    simp only [Act.eval]
    rw [Array.getD_eq_getD_getElem?, h1]; exact h2
  | const c => injection hx with hx; subst hx; exact constAV_ok g c
  | func f =>
    injection hx with hx; subst hx
    exact VR.mk_fn (.func f) (VL.nil g) (VL.nil g)
  | global k => cases hx

theorem FR.evs {T' : Nat → Option TV} {O' : Nat → Option (List AV)} {g : Gh} {ob : Nat → Nat} {a : Act} {w : World} (h : FR C T' O' A g ob a w) (hT : ∀ t x, T t = some x → T' t = some x) :
    ∀ {xs : List Operand} {vs : List AV}, evs T xs = some vs → VL g vs (xs.map a.eval)
  | [], vs, hv => by injection hv with hv; subst hv; exact VL.nil g
  | x :: xs, vs, hv => by
    unfold Ab.evs at hv
    split at hv
    · rename_i v hx
      split at hv
      · rename_i ws hw
        injection hv with hv; subst hv
        exact VL.cons (h.ev hT hx) (h.evs hT hw)
      · cases hv
    · cases hv

theorem OpOk.value {nx : Nat} {o : Oper} {v : TV}
    (h : ∀ T' O' A', (∀ t x, T t = some x → T' t = some x) → (∀ i x, O i = some x → O' i = some x) → A.sub A' → ∀ g ob a w, FR C T' O' A' g ob a w → ∃ V, (execOp a.eval o).run P w = .ok (.value V) w ∧ TR g O' ob v V) :
    OpOk P C nx o T O A v .nop := ⟨trivial, fun T' O' A' hT hO hA _ _ hd g ob a w hF Q => by
  obtain ⟨V, h1, h2⟩ := h T' O' A' hT hO hA g ob a w hF
  unfold Oper.wp
  rw [h1]
  exact ⟨g, ob, hF.put o.dst hd h2⟩⟩

theorem run_v {s : Sem Value} {V : Value} {w w' : World} (h : s.run P w = .ok V w') : (do pure (Next.value (← s)) : Sem Next).run P w = .ok (.value V) w' := by
  simp [h]

theorem kindB_eq : ∀ {k k' : IntKind}, kindB k k' = true → k = k' := by intro k k'; cases k <;> cases k' <;> simp [kindB]

theorem string_eq (a b : ByteArray) : (a.toList == b.toList) = (a.data.toList == b.data.toList) := by
  rw [ByteArray.toList_eq, ByteArray.toList_eq]
end
end Ab
end Go.Proofs.YtpmigkbcldffeaaGreatDoor

/- Operators, against the model. -/
namespace Go.Proofs.YtpmigkbcldffeaaGreatDoor
namespace Ab
section
variable {P : Program} {Ty : TypeId → Option TyI}

theorem guard_int (op : BinOp) (t : TypeId) (x y : Operand) (k k' : IntKind) (a b : Int) (w : World) : (eqGuard op t x y (.int k a) (.int k' b)).run P w = .ok () w := by
  unfold eqGuard; cases op <;> rfl
theorem guard_str (op : BinOp) (t : TypeId) (x y : Operand) (a b : ByteArray) (w : World) : (eqGuard op t x y (.string a) (.string b)).run P w = .ok () w := by
  unfold eqGuard; cases op <;> rfl
theorem guard_bool (op : BinOp) (t : TypeId) (x y : Operand) (a b : Bool) (w : World) : (eqGuard op t x y (.bool a) (.bool b)).run P w = .ok () w := by
  unfold eqGuard; cases op <;> rfl
theorem guard_ptr (op : BinOp) (t : TypeId) (x y : Operand) (a b : Option Addr) (w : World) : (eqGuard op t x y (.pointer a) (.pointer b)).run P w = .ok () w := by
  unfold eqGuard; cases op <;> rfl

theorem abinI_ok {op : BinOp} {k : IntKind} {a b : Int} {K : AV → Prop} (h : abinI op k a b K) (t : TypeId) :
    ∃ v, K v ∧ ∀ g w, ∃ V, (binOp op t (.int k a) (.int k b)).run P w = .ok V w ∧ VR g v V := by
  cases op <;> simp only [abinI] at h <;> try exact h.elim
  case add => exact ⟨_, h.out, fun g w => ⟨_, by simp [binOp, Op.intArith], .int _ _⟩⟩
  case sub => exact ⟨_, h.out, fun g w => ⟨_, by simp [binOp, Op.intArith], .int _ _⟩⟩
  case mul => exact ⟨_, h.out, fun g w => ⟨_, by simp [binOp, Op.intArith], .int _ _⟩⟩
  case quo => exact ⟨_, h.out.2.out, fun g w => ⟨_, by simp [binOp, Op.intDiv, h.out.1], .int _ _⟩⟩
  case rem => exact ⟨_, h.out.2, fun g w => ⟨_, by simp [binOp, Op.intDiv, h.out.1], .int _ _⟩⟩
  case and => exact ⟨_, h, fun g w => ⟨_, by simp [binOp, Op.intBits, bitI], .int _ _⟩⟩
  case or => exact ⟨_, h, fun g w => ⟨_, by simp [binOp, Op.intBits, bitI], .int _ _⟩⟩
  case xor => exact ⟨_, h, fun g w => ⟨_, by simp [binOp, Op.intBits, bitI], .int _ _⟩⟩
  case andNot => exact ⟨_, h, fun g w => ⟨_, by simp [binOp, Op.intBits, bitI], .int _ _⟩⟩
  all_goals exact ⟨_, h.out, fun g w => ⟨_, by simp [binOp, Op.intCmp], .bool _⟩⟩

theorem abinS_ok {op : BinOp} {a b : List UInt8} {K : AV → Prop} (h : abinS op a b K) (t : TypeId) :
    ∃ v, K v ∧ ∀ g w (X Y : ByteArray), X.data.toList = a → Y.data.toList = b → ∃ V, (binOp op t (.string X) (.string Y)).run P w = .ok V w ∧ VR g v V := by
  cases op <;> simp only [abinS] at h <;> try exact h.elim
  case add =>
    refine ⟨_, h.out.2, fun g w X Y hX hY => ⟨.string (X ++ Y), ?_, .str _ _ (by simp [ByteArray.data_append, hX, hY])⟩⟩
    have e : ¬ ((X.size + Y.size : Nat) : Int) > IntKind.i64.max := by
      have h1 : X.size = a.length := by rw [← hX]; show X.data.size = _; simp
      have h2 : Y.size = b.length := by rw [← hY]; show Y.data.size = _; simp
      have := h.out.1
      rw [h1, h2]
      show ¬ _ > (9223372036854775807 : Int)
      omega
    simp only [binOp, Op.stringOp]
    rw [if_neg e]; rfl
  all_goals
    refine ⟨_, h.out, fun g w X Y hX hY => ⟨_, by simp only [binOp, Op.stringOp, ByteArray.toList_eq, hX, hY]; rfl, .bool _⟩⟩

theorem depth_succ : Op.maxDepth = 9999 + 1 := rfl
theorem aeq_ok (ty : TyOk P Ty) {t : TypeId} {i : TyI} (hi : Ty t = some i) {x y : AV} {K : Bool → Prop} (h : aeq i x y K) :
    ∃ b, K b ∧ ∀ g w X Y, VR g x X → VR g y Y → (∀ op ox oy, (eqGuard op t ox oy X Y).run P w = .ok () w) ∧
      (binOp .eql t X Y).run P w = .ok (.bool b) w ∧ (binOp .neq t X Y).run P w = .ok (.bool !b) w := by
  have hu := fun w => ty.under hi w
  have fin : ∀ {X Y : Value} {w : World} {b : Bool}, (Op.equal t X Y).run P w = .ok b w → (binOp .eql t X Y = do pure (Value.bool (← Op.equal t X Y))) → (binOp .neq t X Y = do pure (Value.bool (!(← Op.equal t X Y)))) →
      (binOp .eql t X Y).run P w = .ok (.bool b) w ∧ (binOp .neq t X Y).run P w = .ok (.bool !b) w := fun h1 h2 h3 => by
    rw [h2, h3]; constructor <;> simp only [Sem.run_bind, h1, Result.andThen_ok, Sem.run_pure]
  unfold aeq at h
  obtain ⟨n, hn⟩ : ∃ n, Op.maxDepth = n + 1 := ⟨9999, depth_succ⟩
  split at h
  · rename_i a b hd
    refine ⟨_, h.out, fun g w X Y hX hY => ?_⟩
    cases hX; cases hY
    refine ⟨fun op ox oy => guard_bool op t ox oy _ _ w, fin ?_ rfl rfl⟩
    unfold Op.equal; rw [hn]; simp [Op.equalIn, hu w, hd]
  · rename_i e hd
    refine ⟨_, h, fun g w X Y hX hY => ?_⟩
    cases hX; cases hY
    refine ⟨fun op ox oy => guard_ptr op t ox oy _ _ w, fin ?_ rfl rfl⟩
    unfold Op.equal; rw [hn]; simp [Op.equalIn, hu w, hd]
  · rename_i e p o hd
    refine ⟨_, h, fun g w X Y hX hY => ?_⟩
    cases hX; cases hY
    refine ⟨fun op ox oy => guard_ptr op t ox oy _ _ w, fin ?_ rfl rfl⟩
    unfold Op.equal; rw [hn]; simp [Op.equalIn, hu w, hd]
  · rename_i e p o hd
    refine ⟨_, h, fun g w X Y hX hY => ?_⟩
    cases hX; cases hY
    refine ⟨fun op ox oy => guard_ptr op t ox oy _ _ w, fin ?_ rfl rfl⟩
    unfold Op.equal; rw [hn]; simp [Op.equalIn, hu w, hd]
  · rename_i xs ys
    split at h
    · exact h.elim
    · rename_i k ks he
      split at h
      · rename_i b hb
        refine ⟨b, h.out, fun g w X Y hX hY => ?_⟩
        obtain ⟨L, rfl, hL⟩ := hX.inv_agg
        obtain ⟨M, rfl, hM⟩ := hY.inv_agg
        obtain ⟨h1, h2⟩ := ty.eq t i hi (by rw [he]; simp)
        rw [he] at h2
        refine ⟨fun op ox oy => ?_, fin (h2 g xs ys L M b w hb hL hM) rfl rfl⟩
        unfold eqGuard; cases op <;> simp [h1]
      · exact h.elim
  · exact h.elim

theorem abin_ok (ty : TyOk P Ty) {op : BinOp} {t : TypeId} {x y : AV} {K : AV → Prop} (h : abin Ty op t x y K) :
    ∃ v, K v ∧ ∀ g w X Y ox oy, VR g x X → VR g y Y → ∃ V, (do eqGuard op t ox oy X Y; binOp op t X Y : Sem Value).run P w = .ok V w ∧ VR g v V := by
  unfold abin at h
  split at h
  · rename_i k a k' b
    split at h
    · refine ⟨_, h.out.2, fun g w X Y ox oy hX hY => ?_⟩
      cases hX; cases hY
      have e : ¬ b < 0 := by have := h.out.1; omega
      refine ⟨_, ?_, .int _ _⟩
      simp only [Sem.run_bind, guard_int, Result.andThen_ok, binOp, Op.shift, if_neg e, shlI]
      rfl
    · refine ⟨_, h.out.2, fun g w X Y ox oy hX hY => ?_⟩
      cases hX; cases hY
      have e : ¬ b < 0 := by have := h.out.1; omega
      refine ⟨_, ?_, .int _ _⟩
      simp only [Sem.run_bind, guard_int, Result.andThen_ok, binOp, Op.shift, if_neg e, shrI]
      rfl
    · split at h
      · rename_i hk
        have hk := kindB_eq hk
        subst hk
        obtain ⟨v, hv, hr⟩ := abinI_ok (P := P) h t
        refine ⟨v, hv, fun g w X Y ox oy hX hY => ?_⟩
        cases hX; cases hY
        obtain ⟨V, h1, h2⟩ := hr g w
        exact ⟨V, by simp only [Sem.run_bind, guard_int, Result.andThen_ok, h1], h2⟩
      · exact h.elim
  · obtain ⟨v, hv, hr⟩ := abinS_ok (P := P) h t
    refine ⟨v, hv, fun g w X Y ox oy hX hY => ?_⟩
    cases hX with
    | str _ bx hx =>
      cases hY with
      | str _ b' hy =>
        obtain ⟨V, h1, h2⟩ := hr g w bx b' hx hy
        exact ⟨V, by simp only [Sem.run_bind, guard_str, Result.andThen_ok, h1], h2⟩
  · split at h
    · rename_i i hi
      split at h
      · obtain ⟨b, hb, hr⟩ := aeq_ok ty hi h
        refine ⟨_, hb, fun g w X Y ox oy hX hY => ?_⟩
        obtain ⟨h1, h2, h3⟩ := hr g w X Y hX hY
        exact ⟨_, by simp only [Sem.run_bind, h1, Result.andThen_ok, h2], .bool _⟩
      · obtain ⟨b, hb, hr⟩ := aeq_ok ty hi h
        refine ⟨_, hb, fun g w X Y ox oy hX hY => ?_⟩
        obtain ⟨h1, h2, h3⟩ := hr g w X Y hX hY
        exact ⟨_, by simp only [Sem.run_bind, h1, Result.andThen_ok, h3], .bool _⟩
      · exact h.elim
    · exact h.elim
end
end Ab
end Go.Proofs.YtpmigkbcldffeaaGreatDoor

/- Memory that is made, and memory of the call's own. -/
namespace Go.Proofs.YtpmigkbcldffeaaGreatDoor
namespace Ab

theorem splice_eq {α : Type} : ∀ (vs cs : List α) (off : Nat), off + vs.length ≤ cs.length → splice cs off vs = cs.take off ++ vs ++ cs.drop (off + vs.length)
  | [], cs, off, _ => by simp [splice]
  | v :: vs, cs, off, h => by
    have h' : off < cs.length := by simp at h; omega
    rw [splice, splice_eq vs (cs.set off v) (off + 1) (by simp at h ⊢; omega)]
    apply List.ext_getElem?
    intro j
    simp only [List.getElem?_append, List.length_append, List.length_take, List.length_set, List.length_cons]
    rcases Nat.lt_trichotomy j off with hj | hj | hj
    · simp [show min (off + 1) cs.length = off + 1 by omega, show min off cs.length = off by omega, show j < off + 1 by omega, show j < off by omega, show j < off + 1 + vs.length by omega, show j < off + (vs.length + 1) by omega, show off ≠ j by omega]
    · subst hj
      simp [show min (j + 1) cs.length = j + 1 by omega, show min j cs.length = j by omega, show j < j + 1 + vs.length by omega, h']
    · simp only [show min (off + 1) cs.length = off + 1 by omega, show min off cs.length = off by omega, show ¬ j < off + 1 by omega, show ¬ j < off by omega, if_false]
      rw [show j - off = (j - (off + 1)) + 1 by omega, List.getElem?_cons_succ, List.drop_set]
      rw [show off + 1 + vs.length = off + (vs.length + 1) by omega]
      simp [show off < off + (vs.length + 1) by omega]

theorem splice_length {α : Type} : ∀ (vs cs : List α) (off : Nat), (splice cs off vs).length = cs.length
  | [], _, _ => rfl
  | v :: vs, cs, off => by rw [splice, splice_length vs]; simp
theorem CL.splice {g : Gh} : ∀ {vs : List AV} {M : List Value} {cs : List AV} {L : List Value} (off : Nat), CL g cs L → CL g vs M → CL g (splice cs off vs) (splice L off M)
  | [], M, cs, L, off, h, k => by rw [k.toVL.inv_nil]; exact h
  | v :: vs, M, cs, L, off, h, k => by
    obtain ⟨V, M', rfl, h1, h2⟩ := k.toVL.inv_cons
    refine CL.splice (off + 1) ⟨h.toVL.set off h1, fun X hX => ?_⟩ ⟨h2, fun X hX => k.one X (List.mem_cons_of_mem _ hX)⟩
    rcases List.mem_or_eq_of_mem_set hX with hX | hX
    · exact h.one X hX
    · subst hX; exact k.one _ (List.mem_cons_self ..)

theorem VR.one {g : Gh} {a : AV} {V : Value} (h : VR g a V) (ha : a.okv = true) (hn : ∀ cs, a ≠ .agg cs) : V.oneCell' = true := by
  cases h <;> first | rfl | (simp [AV.okv] at ha; done) | (exact absurd rfl (hn _)) | exact ha
/-- The cells of a value that lies in cells. -/
theorem VR.flat {g : Gh} {a : AV} {V : Value} (h : VR g a V) (ha : a.okv = true) : CL g a.cells V.cells.toList := by
  by_cases hn : ∀ cs, a ≠ .agg cs
  · have h1 := h.one ha hn
    have e1 : a.cells = [a] := by cases a <;> first | rfl | exact absurd rfl (hn _)
    have e2 : V.cells = #[V] := by cases V <;> first | rfl | (simp [Value.oneCell'] at h1; done)
    rw [e1, e2]
    exact ⟨VL.cons h (VL.nil g), fun v hv => by simp at hv; subst hv; exact h1⟩
  · have : ∃ cs, a = .agg cs := Classical.byContradiction fun h' => hn fun cs e => h' ⟨cs, e⟩
    obtain ⟨cs, rfl⟩ := this
    obtain ⟨L, rfl, hL⟩ := h.inv_agg
    exact hL

def Gh.new (g : Gh) (n : Nat) (L : List Value) : Gh := { g with S := fun b o => if b = n then L[o]? else g.S b o }
theorem Inv.seal_none {A : AO} {g : Gh} {w : World} (h : Inv A g w) (o : Nat) {n : Nat} (hn : w.heap.size ≤ n) : g.S n o = none := by
  cases hq : g.S n o with
  | none => rfl
  | some v => exact absurd (h.seal_lt hq) (Nat.not_lt.2 hn)
theorem Inv.le_new {A : AO} {g : Gh} {w : World} (h : Inv A g w) (L : List Value) : g.le (g.new w.heap.size L) :=
  ⟨fun b o v hv => by
    have : b ≠ w.heap.size := fun e => by subst e; rw [h.seal_none o (Nat.le_refl _)] at hv; cases hv
    simp [Gh.new, this, hv], fun _ _ h => h⟩
theorem Gh.new_lies (g : Gh) (n : Nat) (L : List Value) : (g.new n L).lies n 0 L := fun j V hV => by simp [Gh.new, hV]

theorem TokAt.keep {g g' : Gh} {w w' : World} {b sz e : Nat} (h : TokAt g w b sz e) (hg : g.le g') (hw : w'.heap[b]? = w.heap[b]?) (hs : ∀ o, g.S b o = none → g'.S b o = none) : TokAt g' w' b sz e := by
  obtain ⟨arr, T, lo, hi, C, h1, h2, h3, h4, h5, h6⟩ := h
  exact ⟨arr, T, lo, hi, C, hw.trans h1, h2, hg.c _ _ h3, h4, h5, fun o ho => hs o (h6 o ho)⟩
theorem MapAt.keep {g g' : Gh} {w w' : World} {b : Nat} {es : List (AV × AV)} (h : MapAt g w b es) (hg : g.le g') (hw : w'.heap[b]? = w.heap[b]?) : MapAt g' w' b es := by
  obtain ⟨L, c, h1, h2, h3⟩ := h
  exact ⟨L, c, hw.trans h1, h2, fun j a b => ⟨(h3 j a b).1.mono hg, (h3 j a b).2.mono hg⟩⟩

/-- What is known stays known where nothing that is known has changed. -/
theorem Inv.keep {A : AO} {g g' : Gh} {w w' : World} (h : Inv A g w) (hg : g.le g') (hs : ∀ b o v, g'.S b o = some v → w'.cell? ⟨b, o, none⟩ = some v)
    (hm : ∀ b, A.mut b → w'.heap[b]? = w.heap[b]? ∧ ∀ o, g.S b o = none → g'.S b o = none) (hc : ∀ b n, g'.cp b = some n → b < w'.heap.size) : Inv A g' w' :=
  ⟨hs, fun p cs e => by
      have hp : A.mut p := .inl (by rw [e]; simp)
      obtain ⟨h1, h2⟩ := h.rows p cs e
      exact ⟨h1.keep hg (hm p hp).1, fun o => (hm p hp).2 o (h2 o)⟩,
    fun p sz e he => (h.toks p sz e he).keep hg (hm p (.inr (.inl (by rw [he]; simp)))).1 (hm p (.inr (.inl (by rw [he]; simp)))).2,
    fun p es he => (h.maps p es he).keep hg (hm p (.inr (.inr (.inl (by rw [he]; simp))))).1, h.apart, hc,
    fun p t he => by
      obtain ⟨arr, fr, h1⟩ := h.tys p t he
      exact ⟨arr, fr, by rw [(hm p (.inr (.inr (.inr (by rw [he]; simp))))).1]; exact h1⟩⟩

theorem alloc_heap_lt {w : World} {o : Obj} {b : Nat} (h : b < w.heap.size) : (w.alloc o).heap[b]? = w.heap[b]? := heap_alloc_old w o h

theorem TyAt.alloc {w : World} {o : Obj} {b : Nat} {t : TypeId} (h : TyAt w b t) : TyAt (w.alloc o) b t := by
  obtain ⟨arr, fr, h⟩ := h
  exact ⟨arr, fr, (alloc_heap_lt (Array.getElem?_eq_some_iff.1 h).1).trans h⟩
theorem TyAt.setRow {w : World} {p b : Nat} {L : Array Value} {t : TypeId} (h : TyAt w b t) : TyAt (w.setRow p L) b t := by
  obtain ⟨arr, fr, h⟩ := h
  by_cases e : b = p
  · subst e; exact ⟨L, fr, setRow_heap w _ _ _ _ _ h⟩
  · exact ⟨arr, fr, (setRow_other w _ _ _ e).trans h⟩

/-- A new row that never changes. -/
theorem Inv.new {A : AO} {g : Gh} {w : World} (h : Inv A g w) (L : List Value) (T : TypeId) : Inv A (g.new w.heap.size L) (w.alloc (.cells L.toArray T)) ∧ St A g w A (g.new w.heap.size L) (w.alloc (.cells L.toArray T)) := by
  refine ⟨h.keep (h.le_new L) (fun b o v hv => ?_) (fun b hb => ?_) (fun b n hb => by have := h.cps b n hb; simp; omega), ⟨h.le_new L, rfl, rfl, rfl, by simp, fun b hb _ => alloc_heap_lt hb, fun b hb => .inl hb, fun b o hb _ => ?_⟩⟩
  · unfold Gh.new at hv
    simp only at hv
    split at hv
    · rename_i e; subst e
      rw [cell_of_row _ _ _ _ _ _ (heap_alloc_new w _)]; simpa using hv
    · rw [World.cell?_alloc_lt w _ ⟨b, o, none⟩ (h.seal_lt hv)]; exact h.sealed _ _ _ hv
  · have := h.mut_lt hb
    exact ⟨alloc_heap_lt this, fun o ho => by simp [Gh.new, Nat.ne_of_lt this, ho]⟩
  · simp [Gh.new, Nat.ne_of_lt hb]

section
variable {C : Cx} {T : Nat → Option TV} {O : Nat → Option (List AV)} {A : AO} {g : Gh} {ob : Nat → Nat} {a : Act} {w : World}

theorem TR.mono {g' : Gh} (hg : g.le g') {v : TV} {V : Value} (h : TR g O ob v V) : TR g' O ob v V := by
  cases v with
  | v x => exact VR.mono hg h
  | lp i off => exact h
  | ls i off n c => exact h

theorem FR.own_lt (h : FR C T O A g ob a w) {i : Nat} (hi : O i ≠ none) : ob i < w.heap.size := by
  obtain ⟨cs, e⟩ := Option.ne_none_iff_exists'.1 hi
  exact (h.own i cs e).1.lt

/-- A new row that never changes, beside. -/
theorem FR.new (h : FR C T O A g ob a w) (L : List Value) (Ty : TypeId) : FR C T O A (g.new w.heap.size L) ob a (w.alloc (.cells L.toArray Ty)) := by
  obtain ⟨hi, hs⟩ := h.inv.new L Ty
  refine ⟨h.size, h.defers, fun t v hv => ?_, fun i cs e => ?_, h.inj, hi, h.st.trans hs⟩
  · obtain ⟨V, h1, h2⟩ := h.tm t v hv
    exact ⟨V, h1, h2.mono hs.le⟩
  · obtain ⟨h1, h2, h3, h4⟩ := h.own i cs e
    exact ⟨h1.keep hs.le (alloc_heap_lt h1.lt), fun o => by simp [Gh.new, Nat.ne_of_lt h1.lt, h2 o], h3, h4⟩

/-- A new variable of the call's own. -/
theorem FR.alloc (h : FR C T O A g ob a w) (nx : Nat) (hnx : O nx = none) (cs : List AV) (L : List Value) (hL : CL g cs L) (Ty : TypeId) :
    FR C T (updO O nx cs) A g (fun i => if i = nx then w.heap.size else ob i) a (w.alloc (.cells L.toArray Ty)) := by
  have hold : ∀ i, O i ≠ none → i ≠ nx := fun i hi e => hi (e ▸ hnx)
  refine ⟨h.size, h.defers, fun t v hv => ?_, fun i cs' e => ?_, fun i j hi hj e => ?_, ?_, ?_⟩
  · obtain ⟨V, h1, h2⟩ := h.tm t v hv
    refine ⟨V, h1, ?_⟩
    cases v with
    | v x => exact h2
    | lp i off =>
      obtain ⟨k1, k2⟩ := h2
      exact ⟨by simp [updO, hold i k1, k1], by simp [hold i k1, k2]⟩
    | ls i off n c =>
      obtain ⟨k1, k2, k3⟩ := h2
      exact ⟨by simp [updO, hold i k1, k1], k2, by simp [hold i k1, k3]⟩
  · unfold updO at e
    split at e
    · rename_i hi
      injection e with e; subst e; subst hi
      simp only [if_true]
      refine ⟨⟨L, Ty, heap_alloc_new w _, hL⟩, fun o => h.inv.seal_none o (Nat.le_refl _), fun hm => absurd (h.inv.mut_lt hm) (Nat.lt_irrefl _), h.st.size⟩
    · rename_i hi
      obtain ⟨h1, h2, h3, h4⟩ := h.own i cs' e
      simp only [hi, if_false]
      exact ⟨h1.keep (.refl g) (alloc_heap_lt h1.lt), h2, h3, h4⟩
  · unfold updO at hi hj
    by_cases e1 : i = nx <;> by_cases e2 : j = nx
    · rw [e1, e2]
    · simp only [e1, e2, if_true, if_false] at e hj
      exact absurd (h.own_lt hj) (by omega)
    · simp only [e1, e2, if_true, if_false] at e hi
      exact absurd (h.own_lt hi) (by omega)
    · simp only [e1, e2, if_false] at e hi hj
      exact h.inj i j hi hj e
  · exact h.inv.keep (.refl g) (fun b o v hv => by rw [World.cell?_alloc_lt w _ ⟨b, o, none⟩ (h.inv.seal_lt hv)]; exact h.inv.sealed _ _ _ hv)
      (fun b hb => ⟨alloc_heap_lt (h.inv.mut_lt hb), fun _ ho => ho⟩) (fun b n hb => by have := h.inv.cps b n hb; simp; omega)
  · exact h.st.trans ⟨.refl g, rfl, rfl, rfl, by simp, fun b hb _ => alloc_heap_lt hb, fun b hb => .inl hb, fun _ _ _ _ => rfl⟩

/-- A variable of the call's own is written. -/
theorem FR.write (h : FR C T O A g ob a w) {i : Nat} (hi : O i ≠ none) (cs : List AV) (L : List Value) (hL : CL g cs L) :
    FR C T (updO O i cs) A g ob a (w.setRow (ob i) L.toArray) := by
  obtain ⟨old, e0⟩ := Option.ne_none_iff_exists'.1 hi
  obtain ⟨⟨L0, T0, hb, _⟩, hS, hM, hB⟩ := h.own i old e0
  refine ⟨h.size, h.defers, fun t v hv => ?_, fun j cs' e => ?_, fun j k hj hk e => ?_, ?_, ?_⟩
  · obtain ⟨V, h1, h2⟩ := h.tm t v hv
    refine ⟨V, h1, ?_⟩
    cases v with
    | v x => exact h2
    | lp k off => exact ⟨by unfold updO; split <;> simp_all [h2.1], h2.2⟩
    | ls k off n c => exact ⟨by unfold updO; split <;> simp_all [h2.1], h2.2⟩
  · unfold updO at e
    split at e
    · rename_i hj
      injection e with e; subst e; subst hj
      exact ⟨⟨L, T0, setRow_heap w _ _ _ _ _ hb, hL⟩, hS, hM, hB⟩
    · rename_i hj
      obtain ⟨h1, h2, h3, h4⟩ := h.own j cs' e
      exact ⟨h1.keep (.refl g) (setRow_other w _ _ _ (fun he => hj (h.inj j i (by rw [e]; simp) hi he))), h2, h3, h4⟩
  · have k1 : ∀ m, updO O i cs m ≠ none → O m ≠ none := fun m hm => by
      unfold updO at hm; split at hm
      · rename_i q; rw [q]; exact hi
      · exact hm
    exact h.inj j k (k1 j hj) (k1 k hk) e
  · exact h.inv.keep (.refl g) (fun b o v hv => by
      rw [cell_setRow_other w (ob i) _ ⟨b, o, none⟩ (fun he => by
        have he : b = ob i := he
        subst he; rw [hS o] at hv; cases hv)]
      exact h.inv.sealed _ _ _ hv) (fun b hb' => ⟨setRow_other w _ _ _ (fun he => hM (he ▸ hb')), fun _ ho => ho⟩) (fun b n hb => by simpa using h.inv.cps b n hb)
  · refine ⟨h.st.le, h.st.os, h.st.tape, h.st.output, by simpa using h.st.size, fun b hb' hn => ?_, h.st.fresh, h.st.keepS⟩
    rw [setRow_other w _ _ _ (fun he => by omega)]
    exact h.st.block b hb' hn

/-- A row of memory that may change is written. -/
theorem FR.writeRow (h : FR C T O A g ob a w) {p : Nat} {old : List AV} (hp : A.rows p = some old) (cs : List AV) (L : List Value) (hL : CL g cs L) :
    FR C T O (A.setRow p cs) g ob a (w.setRow p L.toArray) := by
  obtain ⟨⟨L0, T0, hb, _⟩, hS⟩ := h.inv.rows p old hp
  have hmp : A.mut p := .inl (by rw [hp]; simp)
  have hmut : ∀ b, (A.setRow p cs).mut b ↔ A.mut b := fun b => by
    unfold AO.mut AO.setRow
    by_cases e : b = p
    · subst e; simp [hp]
    · simp [e]
  have hown : ∀ j cs', O j = some cs' → ob j ≠ p := fun j cs' e he => (h.own j cs' e).2.2.1 (he ▸ hmp)
  refine ⟨h.size, h.defers, h.tm, fun j cs' e => ?_, h.inj, ⟨fun b o v hv => ?_, fun q cs' e => ?_, fun q sz e he => ?_, fun q es he => ?_, fun q hq => ?_, fun b n hb => by simpa using h.inv.cps b n hb, fun q t ht => (h.inv.tys q t ht).setRow⟩, ?_⟩
  · obtain ⟨h1, h2, h3, h4⟩ := h.own j cs' e
    exact ⟨h1.keep (.refl g) (setRow_other w _ _ _ (hown j cs' e)), h2, fun hm => h3 ((hmut _).1 hm), h4⟩
  · rw [cell_setRow_other w p _ ⟨b, o, none⟩ (fun he => by
      have he : b = p := he
      subst he; rw [hS o] at hv; cases hv)]
    exact h.inv.sealed _ _ _ hv
  · unfold AO.setRow at e
    simp only at e
    split at e
    · rename_i hq
      injection e with e; subst e; subst hq
      exact ⟨⟨L, T0, setRow_heap w _ _ _ _ _ hb, hL⟩, hS⟩
    · rename_i hq
      obtain ⟨h1, h2⟩ := h.inv.rows q cs' e
      exact ⟨h1.keep (.refl g) (setRow_other w _ _ _ hq), h2⟩
  · have hne : q ≠ p := fun e' => by subst e'; have := h.inv.apart q (by rw [hp]; simp); rw [show A.toks q = some (sz, e) from he] at this; cases this
    exact (h.inv.toks q sz e he).keep (.refl g) (setRow_other w _ _ _ hne) (fun _ ho => ho)
  · have k := h.inv.maps q es he
    have hne : q ≠ p := fun e' => by
      subst e'
      obtain ⟨_, _, k1, _⟩ := k
      rw [hb] at k1; cases k1
    exact k.keep (.refl g) (setRow_other w _ _ _ hne)
  · have : A.rows q ≠ none := by
      unfold AO.setRow at hq
      simp only at hq
      split at hq
      · rename_i e'; rw [e', hp]; simp
      · exact hq
    exact h.inv.apart q this
  · exact h.st.trans ⟨.refl g, rfl, rfl, rfl, by simp, fun b hb' hn => setRow_other w _ _ _ (fun he => hn (he ▸ hmp)), fun b hb' => .inl ((hmut b).1 hb'), fun _ _ _ _ => rfl⟩
end
end Ab
end Go.Proofs.YtpmigkbcldffeaaGreatDoor

/- Literals, addresses, slices, against the model. -/
namespace Go.Proofs.YtpmigkbcldffeaaGreatDoor
namespace Ab
section
variable {P : Program} {Ty : TypeId → Option TyI}

/-! ### The filling of a literal -/
theorem foldl_set (off : Nat) : ∀ (vs : List Value) (k : Nat) (cs : List Value),
    (vs.zipIdx k).foldl (fun (cs : Array Value) (x : Value × Nat) => cs.setIfInBounds (off + x.2) x.1) cs.toArray = (splice cs (off + k) vs).toArray
  | [], k, cs => rfl
  | v :: vs, k, cs => by
    simp only [List.zipIdx_cons, List.foldl_cons, splice, List.setIfInBounds_toArray]
    exact foldl_set off vs (k + 1) (cs.set (off + k) v)
theorem fold_cells (off : Nat) (cs : List Value) (v : Value) : v.cells.zipIdx.foldl (fun (cs : Array Value) (x : Value × Nat) => cs.setIfInBounds (off + x.2) x.1) cs.toArray = (splice cs off v.cells.toList).toArray := by
  have := foldl_set off v.cells.toList 0 cs
  rw [← Array.foldl_toList, Array.toList_zipIdx]
  simpa using this

structure PL (g : Gh) (ps : List (Nat × AV)) (Ps : List (Nat × Value)) : Prop where
  keys : Ps.map (·.1) = ps.map (·.1)
  vals : VL g (ps.map (·.2)) (Ps.map (·.2))

theorem afill_ok {pl pl' : Nat → Option (Nat × Nat)} (hpl : ∀ k x, pl k = some x → pl' k = some x) : ∀ {ps : List (Nat × AV)} {cells : List AV} {K : List AV → Prop}, afill pl cells ps K →
    ∃ cells', K cells' ∧ ∀ g (L : List Value) Ps, CL g cells L → PL g ps Ps → ∃ L' : List Value, Instr.fill pl' L.toArray Ps = some L'.toArray ∧ CL g cells' L'
  | [], cells, K, h => ⟨cells, h, fun g L Ps hL hp => ⟨L, by
      have : Ps = [] := by have := hp.keys; simpa using this
      subst this; rfl, hL⟩⟩
  | (k, a) :: ps, cells, K, h => by
    unfold afill at h
    split at h
    · rename_i off size hk
      split at h
      · rename_i ha
        split at h
        · rename_i h1
          split at h
          · rename_i h2
            obtain ⟨cells', hK, hf⟩ := afill_ok hpl h
            refine ⟨cells', hK, fun g L Ps hL hp => ?_⟩
            cases Ps with
            | nil => have := hp.keys; simp at this
            | cons q Ps =>
              obtain ⟨k', V⟩ := q
              have hkk : k' = k := by have := hp.keys; simp at this; exact this.1
              subst hkk
              obtain ⟨W, M, e1, e2, e3⟩ := hp.vals.inv_cons
              simp at e1
              obtain ⟨rfl, rfl⟩ := e1
              have hV := e2.flat ha
              have s1 : V.cells.size = size := by
                have := hV.len; simp at this; rw [this]; exact Nat.eq_of_beq_eq_true h1
              have s2 : off + size ≤ L.length := by rw [hL.len]; exact Nat.le_of_ble_eq_true h2
              obtain ⟨L', f1, f2⟩ := hf g (splice L off V.cells.toList) Ps (hL.splice off hV) ⟨by have := hp.keys; simpa using this, e3⟩
              refine ⟨L', ?_, f2⟩
              simp only [Instr.fill, hpl _ _ hk, s1, ne_eq, not_true_eq_false, decide_false, Bool.false_or]
              rw [if_neg (by simp; omega), fold_cells]
              exact f1
          · exact h.elim
        · exact h.elim
      · exact h.elim
    · exact h.elim

theorem fieldOf_eq : ∀ (l : List Field) (n : Nat), fieldOf l n = l[n]?
  | [], _ => rfl
  | _ :: _, 0 => rfl
  | _ :: r, n + 1 => fieldOf_eq r n

theorem allTy_places (ty : TyOk P Ty) : ∀ (fs : List Field), allTy Ty fs = true → ∃ ps, fs.mapM (fun f => (P.info? f.type).map fun i => (f.offset, i.size)) = some ps ∧
    ∀ k x, (match fieldOf fs k with | some f => (match Ty f.type with | some j => some (f.offset, j.size) | none => none) | none => none) = some x → ps[k]? = some x
  | [], _ => ⟨[], rfl, fun k x h => by simp [fieldOf] at h⟩
  | f :: fs, h => by
    unfold allTy at h
    split at h
    · rename_i i hi
      obtain ⟨ps, h1, h2⟩ := allTy_places ty fs h
      obtain ⟨inf, k1, k2, _⟩ := ty.i _ _ hi
      refine ⟨(f.offset, inf.size) :: ps, by simp [k1, h1], fun k x hk => ?_⟩
      cases k with
      | zero => simp only [fieldOf, hi] at hk; simpa [k2] using hk
      | succ k => simpa using h2 k x (by simpa only [fieldOf] using hk)
    · cases h

theorem build_ok (ty : TyOk P Ty) {t : TypeId} {i : TyI} (hi : Ty t = some i) (hz : i.agg = true) (hf : fieldsOk Ty i = true) {ps : List (Nat × AV)} {K : List AV → Prop} (h : afill (place Ty i) i.zv.cells ps K) (hzo : i.zv.okv = true) :
    ∃ cells, K cells ∧ ∀ g w (Ps : Array (Nat × Value)), PL g ps Ps.toList → ∃ V, (Instr.build t Ps).run P w = .ok V w ∧ VR g (.agg cells) V := by
  obtain ⟨inf, h1, h2, h3, z, h4, h5⟩ := ty.i t i hi
  have hu := ty.u t i hi
  cases hd : i.d with
  | struct fs =>
    have hf' : allTy Ty fs.toList = true := by simpa [fieldsOk, hd] using hf
    obtain ⟨pls, p1, p2⟩ := allTy_places ty fs.toList hf'
    obtain ⟨cells, hK, hc⟩ := afill_ok (pl' := fun k => pls.toArray[k]?) (fun k x hk => by
      have : place Ty i k = some x := hk
      unfold place at this
      rw [hd] at this
      simpa using p2 k x this) h
    refine ⟨cells, hK, fun g w Ps hp => ?_⟩
    obtain ⟨L', f1, f2⟩ := hc g z.cells.toList Ps.toList ((h5 g).flat hzo) hp
    refine ⟨_, run_build w t Ps L'.toArray ?_, VR.mk_agg f2⟩
    unfold Program.built
    rw [hu, hd]
    simp only [h1, h4, p1]
    simpa using f1
  | array n e =>
    obtain ⟨j, he⟩ : ∃ j, Ty e = some j := Option.isSome_iff_exists.1 (by simpa [fieldsOk, hd] using hf)
    obtain ⟨ie, k1, k3, _⟩ := ty.i _ _ he
    have k2 : ∀ k x, place Ty i k = some x → some (k * ie.size, ie.size) = some x := fun k x hk => by unfold place at hk; rw [hd] at hk; simp only [he] at hk; rw [k3]; exact hk
    obtain ⟨cells, hK, hc⟩ := afill_ok (pl' := fun k => some (k * ie.size, ie.size)) k2 h
    refine ⟨cells, hK, fun g w Ps hp => ?_⟩
    obtain ⟨L', f1, f2⟩ := hc g z.cells.toList Ps.toList ((h5 g).flat hzo) hp
    refine ⟨_, run_build w t Ps L'.toArray ?_, VR.mk_agg f2⟩
    unfold Program.built
    rw [hu, hd]
    simp only [h1, h4, k1]
    simpa using f1
  | _ => simp [TyI.agg, hd] at hz
end
end Ab
end Go.Proofs.YtpmigkbcldffeaaGreatDoor

/- Slices and indices, against the model. -/
namespace Go.Proofs.YtpmigkbcldffeaaGreatDoor
namespace Ab
section
variable {P : Program} {Ty : TypeId → Option TyI}

theorem rep_length : ∀ (n : Nat) {α : Type} (z : List α), (List.replicate n z).flatten.length = n * z.length := by
  intro n α z; simp
theorem rep_eq : ∀ (n : Nat) (z : List AV), rep n z = (List.replicate n z).flatten
  | 0, _ => rfl
  | n + 1, z => by rw [rep, rep_eq n z]; rfl
theorem CL.rep {g : Gh} {z : List AV} {Z : List Value} (h : CL g z Z) : ∀ n, CL g (rep n z) (List.replicate n Z).flatten
  | 0 => ⟨VL.nil g, fun _ h => by cases h⟩
  | n + 1 => by
    have := h.append (CL.rep h n)
    simpa [Ab.rep, List.replicate_succ] using this
theorem flat_get {α : Type} (Z : List α) : ∀ (n j : Nat), j < n * Z.length → ((List.replicate n Z).flatten)[j]? = Z[j % Z.length]?
  | 0, j, h => by simp at h
  | n + 1, j, h => by
    simp only [List.replicate_succ, List.flatten_cons]
    by_cases hj : j < Z.length
    · rw [List.getElem?_append_left hj, Nat.mod_eq_of_lt hj]
    · rw [List.getElem?_append_right (by omega), flat_get Z n (j - Z.length) (by rw [Nat.succ_mul] at h; omega)]
      rw [Nat.mod_eq_sub_mod (by omega : j ≥ Z.length)]
theorem zeros_eq (Z : Array Value) (n : Nat) (hz : 0 < Z.size) : (Array.range (n * Z.size)).map (fun i => Z[i % Z.size]!) = (List.replicate n Z.toList).flatten.toArray := by
  apply Array.ext'
  apply List.ext_getElem?
  intro j
  simp only [Array.toList_map, Array.toList_range, List.getElem?_map]
  by_cases hj : j < n * Z.size
  · have := flat_get Z.toList n j (by simpa using hj)
    rw [this]
    have hm : j % Z.size < Z.size := Nat.mod_lt _ hz
    simp [List.getElem?_range hj, hm, getElem!_pos Z (j % Z.size) hm]
  · rw [List.getElem?_eq_none (by simp; omega), List.getElem?_eq_none (by simp; omega)]
    rfl

theorem chop_get (sz : Nat) : ∀ (n : Nat) (l : List AV) (i : Nat), (chop sz n l)[i]? = if i < n then some ((l.drop (i * sz)).take sz) else none
  | 0, l, i => by simp [chop]
  | n + 1, l, i => by
    cases i with
    | zero => simp [chop]
    | succ i =>
      simp only [chop, List.getElem?_cons_succ, chop_get sz n (l.drop sz) i, List.drop_drop]
      simp [Nat.succ_mul, Nat.add_comm sz]
theorem chop_length (sz : Nat) : ∀ (n : Nat) (l : List AV), (chop sz n l).length = n
  | 0, _ => rfl
  | n + 1, l => by simp [chop, chop_length sz n]
theorem chop_rows {g : Gh} {b o sz n : Nat} {cs : List AV} {L : List Value} (h : CL g cs L) (hl : g.lies b o L) (hn : n * sz ≤ L.length) : g.rows b o sz (chop sz n cs) := fun i hi => by
  rw [chop_length] at hi
  have e : (chop sz n cs)[i]'(by rw [chop_length]; exact hi) = (cs.drop (i * sz)).take sz := by
    have := chop_get sz n cs i
    rw [if_pos hi, List.getElem?_eq_getElem (by rw [chop_length]; exact hi)] at this
    injection this
  refine ⟨(L.drop (i * sz)).take sz, ?_, ?_, fun j V hV => ?_⟩
  · rw [e]; exact (h.drop _).take _
  · have : (i + 1) * sz ≤ n * sz := Nat.mul_le_mul_right _ hi
    rw [Nat.succ_mul] at this
    simp; omega
  · rw [List.getElem?_take] at hV
    split at hV
    · rw [List.getElem?_drop] at hV
      rw [Nat.add_assoc]; exact hl _ _ hV
    · cases hV

/-- A slice literal: a new row that never changes. -/
theorem buildSlice_ok (ty : TyOk P Ty) {t e : TypeId} {i j : TyI} (hi : Ty t = some i) (hd : i.d = .slice e) (hj : Ty e = some j) {n : Nat} {ps : List (Nat × AV)} {K : List AV → Prop}
    (hn : n * j.size ≤ 16777216) (hz : j.zv.cells.length = j.size) (hzo : j.zv.okv = true) (h : afill (fun k => some (k * j.size, j.size)) (rep n j.zv.cells) ps K) :
    ∃ cells, K cells ∧ ∀ g w (Ps : Array (Nat × Value)), PL g ps Ps.toList → ∃ L, CL g cells L ∧ L.length = n * j.size ∧
      (Instr.buildSlice t n Ps).run P w = .ok (.slice (some ⟨w.heap.size, 0, none⟩) n n) (w.alloc (.cells L.toArray e)) := by
  obtain ⟨inf, h1, h2, h3, z, h4, h5⟩ := ty.i e j hj
  obtain ⟨cells, hK, hc⟩ := afill_ok (pl' := fun k => some (k * j.size, j.size)) (fun k x hk => hk) h
  refine ⟨cells, hK, fun g w Ps hp => ?_⟩
  have hzc := (h5 g).flat hzo
  have hZ : z.cells.size = j.size := by have := hzc.len; simp at this; rw [this, hz]
  obtain ⟨L', f1, f2⟩ := hc g _ Ps.toList (hzc.rep n) hp
  have hlen : L'.length = n * j.size := by
    have h0 : ∀ {pl : Nat → Option (Nat × Nat)} {Ps : List (Nat × Value)} {A B : Array Value}, Instr.fill pl A Ps = some B → B.size = A.size := by
      intro pl Ps
      induction Ps with
      | nil => intro A B hh; simp [Instr.fill] at hh; rw [hh]
      | cons p Ps ih =>
        intro A B hh
        obtain ⟨k, v⟩ := p
        unfold Instr.fill at hh
        split at hh
        · cases hh
        · split at hh
          · cases hh
          · rename_i off size _ _
            have := ih hh
            rw [this]
            have hA : ∃ l : List Value, A = l.toArray := ⟨A.toList, by simp⟩
            obtain ⟨l, rfl⟩ := hA
            rw [fold_cells]
            simp [splice_length]
    have := h0 f1
    simp [hZ] at this
    exact this
  refine ⟨L', f2, hlen, ?_⟩
  have hu := ty.u t i hi
  rw [hd] at hu
  have e2 : ¬ n * j.size > 2 ^ 24 := by show ¬ n * j.size > 16777216; omega
  by_cases h0 : n * j.size = 0
  · have hr : (List.replicate n z.cells.toList).flatten = [] := List.eq_nil_of_length_eq_zero (by simp [hZ, h0])
    rw [hr] at f1
    simp only [Instr.buildSlice, Sem.run_bind, run_underlying hu, Result.andThen_ok, ty.size hj, h0]
    simp only [Nat.not_lt_zero, gt_iff_lt, if_false, if_true, Sem.run_pure, Result.andThen_ok]
    simp [f1, newRow, show Array.range 0 = (#[] : Array Nat) from rfl]
  · have hzp : 0 < z.cells.size := by rw [hZ]; rcases Nat.eq_zero_or_pos j.size with e | e
                                      · rw [e] at h0; simp at h0
                                      · exact e
    simp only [Instr.buildSlice, Sem.run_bind, run_underlying hu, Result.andThen_ok, ty.size hj, if_neg e2, if_neg h0]
    have hzv : (zeroValue e).run P w = .ok z w := by simp [zeroValue, typeInfo, h1, h4]
    simp only [hzv, Result.andThen_ok, Sem.run_pure, Sem.run_bind]
    have := zeros_eq z.cells n hzp
    rw [hZ] at this
    rw [hZ, this, f1]
    simp [newRow]

/-! ### Bounds -/
theorem bound_run {v : Value} {g : Gh} {k : IntKind} {l : Int} (hv : VR g (.int k l) v) {y : Nat} (h0 : 0 ≤ l) (h1 : l ≤ y) (code : BoundsCode) (w : World) : (Instr.sliceBound v y code).run P w = .ok l.toNat w := by
  cases hv
  simp only [Instr.sliceBound, asIntOf, Sem.run_bind, Sem.run_pure, Result.andThen_ok]
  rw [if_pos ⟨h0, h1⟩]; rfl

/-- An operand that may be missing. -/
def VO (g : Gh) : Option AV → Option Value → Prop
  | none, V => V = none
  | some a, V => ∃ X, V = some X ∧ VR g a X

theorem bounds_ok {lo hi : Option AV} {n : Nat} {K : Nat → Nat → Prop} (h : bounds lo hi n K) :
    ∃ l h', K l h' ∧ l ≤ h' ∧ h' ≤ n ∧ ∀ g Lo Hi cap b w, VO g lo Lo → VO g hi Hi → n ≤ cap → (Instr.sliceBounds b n cap Lo Hi none).run P w = .ok (l, h', cap) w := by
  unfold bounds at h
  split at h
  · exact ⟨_, _, h, Nat.zero_le _, Nat.le_refl _, fun g Lo Hi cap b w h1 h2 _ => by
      cases h1; cases h2; simp [Instr.sliceBounds]⟩
  · rename_i k l
    obtain ⟨⟨c0, c1⟩, hk⟩ := h.out
    refine ⟨_, _, hk, by omega, Nat.le_refl _, fun g Lo Hi cap b w h1 h2 hc => ?_⟩
    obtain ⟨X, rfl, hX⟩ := h1; cases h2
    simp [Instr.sliceBounds, bound_run hX c0 c1]
  · rename_i k l
    obtain ⟨⟨c0, c1⟩, hk⟩ := h.out
    refine ⟨_, _, hk, Nat.zero_le _, by omega, fun g Lo Hi cap b w h1 h2 hc => ?_⟩
    obtain ⟨X, rfl, hX⟩ := h2; cases h1
    have c2 : l ≤ (cap : Int) := by omega
    simp [Instr.sliceBounds, bound_run hX c0 c2]
  · rename_i k l k' l'
    obtain ⟨⟨c0, c1⟩, hk⟩ := h.out
    obtain ⟨⟨d0, d1⟩, hk⟩ := hk.out
    refine ⟨_, _, hk, by omega, by omega, fun g Lo Hi cap b w h1 h2 hc => ?_⟩
    obtain ⟨X, rfl, hX⟩ := h1
    obtain ⟨Y, rfl, hY⟩ := h2
    have c2 : l' ≤ (cap : Int) := by omega
    have d2 : l ≤ ((l'.toNat : Nat) : Int) := by omega
    simp [Instr.sliceBounds, bound_run hX d0 d2, bound_run hY c0 c2]
  · exact h.elim

theorem rows_cut {g : Gh} {b o sz : Nat} {rows : List (List AV)} (h : g.rows b o sz rows) (l k : Nat) : g.rows b (o + l * sz) sz ((rows.take k).drop l) := fun i hi => by
  have e : ((rows.take k).drop l)[i] = rows[l + i]'(by simp at hi; omega) := by simp
  rw [e]
  obtain ⟨L, h1, h2, h3⟩ := h (l + i) (by simp at hi; omega)
  refine ⟨L, h1, h2, ?_⟩
  have : o + l * sz + i * sz = o + (l + i) * sz := by rw [Nat.add_mul]; omega
  rw [this]; exact h3
end
end Ab
end Go.Proofs.YtpmigkbcldffeaaGreatDoor

/- Addresses, indices, lengths, conversions, against the model. -/
namespace Go.Proofs.YtpmigkbcldffeaaGreatDoor
namespace Ab
section
variable {P : Program} {Ty : TypeId → Option TyI}

theorem cut_length {α : Type} (rows : List α) {l h n : Nat} (hn : rows.length = n) (h1 : l ≤ h) (h2 : h ≤ n) : ((rows.take h).drop l).length = h - l := by
  simp; omega

theorem sl_cut {g : Gh} {sz n : Nat} {rows : List (List AV)} {V : Value} (h : VR g (.sl sz n rows) V) {l k : Nat} (h1 : l ≤ k) (h2 : k ≤ n) :
    ∃ a c, V = .slice a n c ∧ n ≤ c ∧ VR g (.sl sz (k - l) ((rows.take k).drop l)) (.slice (if c = l then a else a.map (·.add (l * sz))) (k - l) (c - l)) := by
  obtain ⟨A, c, rfl, hn, hc, hr⟩ := h.inv_sl
  refine ⟨A, c, rfl, hc, ?_⟩
  have hlen := cut_length rows hn h1 h2
  by_cases h0 : k - l = 0
  · rw [h0] at hlen ⊢
    rw [List.eq_nil_of_length_eq_zero hlen]
    exact .sl0 _ _ _
  · obtain ⟨b, o, rfl, hq⟩ := hr (by omega)
    rw [if_neg (by omega)]
    simp only [Option.map_some, addr_add]
    exact VR.mk_sl (rows_cut hq l k) hlen (by omega)

theorem asl_ok (ty : TyOk P Ty) {t : TypeId} {i : TyI} (hi : Ty t = some i) {x : TV} {lo hi' mx : Option AV} {K : TV → Prop} (h : asl Ty i x lo hi' mx K) :
    ∃ v, K v ∧ ∀ g O ob X Lo Hi Mx w, TR g O ob x X → VO g lo Lo → VO g hi' Hi → VO g mx Mx → ∃ V, (Instr.sliceAt t X Lo Hi Mx).run P w = .ok V w ∧ TR g O ob v V := by
  have hu := fun w => ty.under hi w
  unfold asl at h
  split at h
  · rename_i s
    split at h
    · rename_i hd
      obtain ⟨l, k, hK, h1, h2, hb⟩ := bounds_ok (P := P) h
      refine ⟨_, hK, fun g O ob X Lo Hi Mx w hX hLo hHi hMx => ?_⟩
      cases hMx
      cases hX with
      | str _ b hs =>
        have hsz : b.size = s.length := by rw [← hs]; show b.data.size = _; simp
        refine ⟨.string (b.extract l k), ?_, .str _ _ ?_⟩
        · have := hb g Lo Hi s.length false w hLo hHi (Nat.le_refl _)
          simp [Instr.sliceAt, Instr.slice, hu w, hd, hsz, this]
        · simp [ByteArray.data_extract, List.extract_eq_take_drop, hs]
          rw [List.take_drop]
          congr 2
          omega
    · exact h.elim
  · rename_i sz n rows
    split at h
    · rename_i e hd
      split at h
      · rename_i j hj
        split at h
        · rename_i hs
          have hs := Nat.eq_of_beq_eq_true hs
          subst hs
          obtain ⟨l, k, hK, h1, h2, hb⟩ := bounds_ok (P := P) h
          refine ⟨_, hK, fun g O ob X Lo Hi Mx w hX hLo hHi hMx => ?_⟩
          cases hMx
          obtain ⟨a, c, rfl, hc, hr⟩ := sl_cut hX h1 h2
          refine ⟨_, ?_, hr⟩
          have := hb g Lo Hi c true w hLo hHi hc
          simp [Instr.sliceAt, Instr.slice, hu w, hd, this, ty.size hj w]
        · exact h.elim
      · exact h.elim
    · exact h.elim
  · rename_i sz ob' e' rows
    split at h
    · rename_i e hd
      split at h
      · rename_i j hj
        split at h
        · rename_i hs
          have hs := Nat.eq_of_beq_eq_true hs
          subst hs
          obtain ⟨l, k, hK, h1, h2, hb⟩ := bounds_ok (P := P) h
          refine ⟨_, hK, fun g O ob X Lo Hi Mx w hX hLo hHi hMx => ?_⟩
          cases hMx
          obtain ⟨a, c, rfl, hc, hr⟩ := sl_cut (Sub.os_sl rfl _ _ hX) h1 h2
          refine ⟨_, ?_, hr⟩
          have := hb g Lo Hi c true w hLo hHi hc
          simp [Instr.sliceAt, Instr.slice, hu w, hd, this, ty.size hj w]
        · exact h.elim
      · exact h.elim
    · exact h.elim
  · rename_i k0
    split at h
    · rename_i e k1 hd
      split at h
      · rename_i j hj
        refine ⟨_, h, fun g O ob X Lo Hi Mx w hX hLo hHi hMx => ?_⟩
        cases hLo
        obtain ⟨Y, rfl, hY⟩ := hHi
        obtain ⟨Z, rfl, hZ⟩ := hMx
        obtain ⟨A, c, rfl, hn, hc, _⟩ := VR.inv_sl hX
        have b1 := fun (y : Nat) (cd : BoundsCode) => bound_run (P := P) hY (y := y) (Int.le_refl 0) (by omega) cd w
        have b2 := fun (y : Nat) (cd : BoundsCode) => bound_run (P := P) hZ (y := y) (Int.le_refl 0) (by omega) cd w
        refine ⟨_, ?_, .os0 0 A⟩
        simp [Instr.sliceAt, Instr.slice, hu w, hd, Instr.sliceBounds, b1, b2, ty.size hj w]
      · exact h.elim
    · exact h.elim
  · rename_i sz p off n
    split at h
    · rename_i e hd
      split at h
      · rename_i j hj
        split at h
        · rename_i hs
          have hs := Nat.eq_of_beq_eq_true hs
          subst hs
          obtain ⟨l, k', hK, h1, h2, hb⟩ := bounds_ok (P := P) h
          obtain ⟨h3, hK⟩ := hK.out
          refine ⟨_, hK, fun g O ob X Lo Hi Mx w hX hLo hHi hMx => ?_⟩
          cases hMx
          cases hX with
          | gs _ _ _ _ c hc =>
            have := hb g Lo Hi c true w hLo hHi hc
            refine ⟨.slice (some ⟨p, off + l * j.size, none⟩) (k' - l) (c - l), ?_, .gs _ _ _ _ _ (by omega)⟩
            simp [Instr.sliceAt, Instr.slice, hu w, hd, this, ty.size hj w, addr_add, show ¬ c = l by omega]
        · exact h.elim
      · exact h.elim
    · exact h.elim
  · rename_i k off
    split at h
    · rename_i n e hd
      split at h
      · rename_i j hj
        obtain ⟨l, k', hK, h1, h2, hb⟩ := bounds_ok (P := P) h
        obtain ⟨h3, hK⟩ := hK.out
        refine ⟨_, hK, fun g O ob X Lo Hi Mx w hX hLo hHi hMx => ?_⟩
        cases hMx
        obtain ⟨hO, rfl⟩ := hX
        have := hb g Lo Hi n false w hLo hHi (Nat.le_refl _)
        refine ⟨_, ?_, hO, by omega, rfl⟩
        simp [Instr.sliceAt, hu w, hd, Instr.sureAddr, this, ty.size hj w, addr_add, show ¬ n = l by omega]
      · exact h.elim
    · exact h.elim
  · exact h.elim

theorem apos_ok (ty : TyOk P Ty) {t : TypeId} {i : TyI} (hi : Ty t = some i) {x : TV} {ix : Int} {K : TV → Prop} (h : apos Ty i x ix K) :
    ∃ v, K v ∧ ∀ g O ob X k w, TR g O ob x X → ∃ V, (Instr.indexAt t X (.int k ix)).run P w = .ok V w ∧ TR g O ob v V := by
  have hu := fun w => ty.under hi w
  have row : ∀ {rows : List (List AV)} {g : Gh} {sz n : Nat} {X : Value} {r : List AV}, 0 ≤ ix → rows[ix.toNat]? = some r → VR g (.sl sz n rows) X →
      ∃ b o c, X = .slice (some ⟨b, o, none⟩) n c ∧ ix < n ∧ VR g (.ip r) (.pointer (some ⟨b, o + ix.toNat * sz, none⟩)) := fun {rows g sz n X r} h0 h1 hX => by
    obtain ⟨A, c, rfl, hn, hc, hr⟩ := hX.inv_sl
    obtain ⟨hlt, rfl⟩ := List.getElem?_eq_some_iff.1 h1
    obtain ⟨b, o, rfl, hq⟩ := hr (by omega)
    obtain ⟨L, k1, k2, k3⟩ := hq ix.toNat hlt
    exact ⟨b, o, c, rfl, by omega, VR.mk_ip k1 k3⟩
  unfold apos at h
  split at h
  · rename_i n e hd
    split at h
    · rename_i j hj
      split at h
      · rename_i k off
        obtain ⟨⟨c0, c1⟩, hK⟩ := h.out
        refine ⟨_, hK, fun g O ob X kk w hX => ?_⟩
        obtain ⟨hO, rfl⟩ := hX
        refine ⟨_, ?_, hO, rfl⟩
        simp [Instr.indexAt, asIntOf, hu w, hd, Instr.sureAddr, ty.size hj w, addr_add, c0, c1]
      · rename_i p off
        obtain ⟨⟨c0, c1⟩, hK⟩ := h.out
        refine ⟨_, hK, fun g O ob X kk w hX => ?_⟩
        cases hX
        refine ⟨_, ?_, .gp _ _⟩
        simp [Instr.indexAt, asIntOf, hu w, hd, Instr.sureAddr, ty.size hj w, addr_add, c0, c1]
      · rename_i cells
        obtain ⟨⟨c0, c1⟩, hK⟩ := h.out
        refine ⟨_, hK, fun g O ob X kk w hX => ?_⟩
        obtain ⟨b, o, L, rfl, hL, hl⟩ := VR.inv_ip hX
        refine ⟨.pointer (some ⟨b, o + ix.toNat * j.size, none⟩), ?_, VR.mk_ip (hL.drop _) (fun m V hV => ?_)⟩
        · simp [Instr.indexAt, asIntOf, hu w, hd, Instr.sureAddr, ty.size hj w, addr_add, c0, c1]
        · rw [List.getElem?_drop] at hV
          rw [Nat.add_assoc]; exact hl _ _ hV
      · exact h.elim
    · exact h.elim
  · rename_i e hd
    split at h
    · rename_i j hj
      split at h
      · rename_i sz n rows
        split at h
        · rename_i hs
          have hs := Nat.eq_of_beq_eq_true hs
          subst hs
          obtain ⟨r, c0, c1, hK⟩ := h.out
          refine ⟨_, hK, fun g O ob X kk w hX => ?_⟩
          obtain ⟨b, o, c, rfl, hlt, hp⟩ := row c0 c1 hX
          refine ⟨_, ?_, hp⟩
          simp [Instr.indexAt, asIntOf, hu w, hd, ty.size hj w, addr_add, c0, hlt]
        · exact h.elim
      · rename_i sz ob' e' rows
        split at h
        · rename_i hs
          have hs := Nat.eq_of_beq_eq_true hs
          subst hs
          obtain ⟨r, c0, c1, hK⟩ := h.out
          refine ⟨_, hK, fun g O ob X kk w hX => ?_⟩
          obtain ⟨b, o, c, rfl, hlt, hp⟩ := row c0 c1 (Sub.os_sl rfl _ _ hX)
          refine ⟨_, ?_, hp⟩
          simp [Instr.indexAt, asIntOf, hu w, hd, ty.size hj w, addr_add, c0, hlt]
        · exact h.elim
      · rename_i sz p off n
        split at h
        · rename_i hs
          have hs := Nat.eq_of_beq_eq_true hs
          subst hs
          obtain ⟨⟨c0, c1⟩, hK⟩ := h.out
          refine ⟨_, hK, fun g O ob X kk w hX => ?_⟩
          cases hX
          refine ⟨_, ?_, .gp _ _⟩
          simp [Instr.indexAt, asIntOf, hu w, hd, ty.size hj w, addr_add, c0, c1]
        · exact h.elim
      · rename_i k off n c
        obtain ⟨⟨c0, c1⟩, hK⟩ := h.out
        refine ⟨_, hK, fun g O ob X kk w hX => ?_⟩
        obtain ⟨hO, _, rfl⟩ := hX
        refine ⟨_, ?_, hO, rfl⟩
        simp [Instr.indexAt, asIntOf, hu w, hd, ty.size hj w, addr_add, c0, c1]
      · exact h.elim
    · exact h.elim
  · exact h.elim

theorem aindex_ok (ty : TyOk P Ty) {t : TypeId} {i : TyI} (hi : Ty t = some i) {x : AV} {ix : Int} {K : AV → Prop} (h : aindex Ty i x ix K) :
    ∃ v, K v ∧ ∀ g X k w, VR g x X → ∃ V, (Instr.index t X (.int k ix)).run P w = .ok V w ∧ VR g v V := by
  have hu := fun w => ty.under hi w
  unfold aindex at h
  split at h
  · rename_i n e cs hd
    split at h
    · rename_i j hj
      obtain ⟨⟨c0, c1⟩, h⟩ := h.out
      obtain ⟨v, hK, hp⟩ := part_ok ty hj h
      refine ⟨v, hK, fun g X k w hX => ?_⟩
      obtain ⟨L, rfl, hL⟩ := hX.inv_agg
      obtain ⟨V, k1, k2⟩ := hp g L w hL
      refine ⟨V, ?_, k2⟩
      simp [Instr.index, asIntOf, hu w, hd, ty.size hj w, c0, c1, k1]
    · exact h.elim
  · rename_i s hd
    obtain ⟨c, c0, c1, hK⟩ := h.out
    refine ⟨_, hK, fun g X k w hX => ?_⟩
    cases hX with
    | str _ b hs =>
      refine ⟨_, ?_, .int _ _⟩
      obtain ⟨hlt, e⟩ := List.getElem?_eq_some_iff.1 c1
      have hlt' : ix.toNat < b.size := by show ix.toNat < b.data.size; rw [← hs] at hlt; simpa using hlt
      have hb : b[ix.toNat]? = some c := by
        rw [getElem?_pos b ix.toNat hlt']
        congr 1
        rw [← e]
        show b.data[ix.toNat] = _
        simp [← hs]
      simp [Instr.index, asIntOf, hu w, hd, c0, hb]
  · exact h.elim

theorem alen_ok (ty : TyOk P Ty) {t : TypeId} {i : TyI} (hi : Ty t = some i) {x : TV} {K : Int → Prop} (h : alen i x K) :
    ∃ n, K n ∧ ∀ g O ob X rt (ats : Array TypeId) w, ats[0]? = some t → TR g O ob x X → (Builtin.len_ ats rt #[X]).run P w = .ok (.int .i64 n) w := by
  have hu := fun w => ty.under hi w
  unfold alen at h
  split at h
  · rename_i n e hd
    exact ⟨_, h, fun g O ob X rt ats w ha hX => by simp [Builtin.len_, ha, hu w, hd, goInt]⟩
  · rename_i hd
    split at h
    · rename_i s
      refine ⟨_, h, fun g O ob X rt ats w ha hX => ?_⟩
      cases hX with
      | str _ b hs =>
        have hsz : b.size = s.length := by rw [← hs]; show b.data.size = _; simp
        simp [Builtin.len_, ha, hu w, hd, goInt, hsz]
    · exact h.elim
  · rename_i e hd
    split at h
    · refine ⟨_, h, fun g O ob X rt ats w ha hX => ?_⟩
      obtain ⟨A, c, rfl, _⟩ := VR.inv_sl hX
      simp [Builtin.len_, ha, hu w, hd, goInt]
    · refine ⟨_, h, fun g O ob X rt ats w ha hX => ?_⟩
      obtain ⟨A, c, rfl, _⟩ := VR.inv_sl (Sub.os_sl rfl _ _ hX)
      simp [Builtin.len_, ha, hu w, hd, goInt]
    · refine ⟨_, h, fun g O ob X rt ats w ha hX => ?_⟩
      cases hX
      simp [Builtin.len_, ha, hu w, hd, goInt]
    · refine ⟨_, h, fun g O ob X rt ats w ha hX => ?_⟩
      obtain ⟨_, _, rfl⟩ := hX
      simp [Builtin.len_, ha, hu w, hd, goInt]
    · exact h.elim
  · exact h.elim

theorem push_bytes : ∀ (l : List UInt8) (s : ByteArray), (l.map fun c => (c.toNat : Int)).foldl (fun (r : ByteArray) n => r.push (UInt8.ofNat n.toNat)) s = ⟨s.data ++ l.toArray⟩
  | [], s => by simp
  | c :: l, s => by
    simp only [List.map_cons, List.foldl_cons]
    rw [push_bytes l]
    apply congrArg ByteArray.mk
    apply Array.ext'
    show (s.data.push (UInt8.ofNat ((c.toNat : Int)).toNat) ++ l.toArray).toList = _
    simp
theorem bytes_run {l : List UInt8} {L : List Value} {g : Gh} {cs : List AV} (hcs : cs = l.map fun c => .int .u8 c.toNat) (h : CL g cs L) : L = (l.map fun c => (c.toNat : Int)).map (Value.int .u8) := by
  subst hcs
  apply List.ext_getElem
  · have := h.len; simpa using this
  · intro j h1 h2
    have := h.at_ j (by simpa using h2) h1
    simp only [List.getElem_map] at this ⊢
    generalize L[j] = X at this
    cases this; rfl
theorem run_str (w : World) (b o : Nat) (c : Nat) (l : List UInt8) (L : List Value) (hL : L = (l.map fun c => (c.toNat : Int)).map (Value.int .u8)) (hc : cellsAt w b o L) :
    (Conv.bytesToString (.slice (some ⟨b, o, none⟩) l.length c)).run P w = .ok (.string ⟨l.toArray⟩) w := by
  have h1 := run_loadCells_at (P := P) w b o L hc
  have hl : L.length = l.length := by rw [hL]; simp
  rw [hl, hL] at h1
  rw [run_bytesToString w _ _ c _ h1, push_bytes]
  congr 3
  simp [ByteArray.empty, ByteArray.emptyWithCapacity]
  try rfl

theorem aconv_ok (ty : TyOk P Ty) {s d : TypeId} {i j : TyI} (hi : Ty s = some i) (hj : Ty d = some j) {a : AV} {K : AV → Prop} (h : aconv Ty i j a K) :
    ∃ v, K v ∧ ∀ A g X w, Inv A g w → VR g a X → ∃ V, (convert s d X).run P w = .ok V w ∧ VR g v V := by
  have hu := fun w => ty.under hi w
  have hv := fun w => ty.under hj w
  unfold aconv at h
  split at h
  · rename_i k k' n hd
    refine ⟨_, h.out, fun A g X w _ hX => ?_⟩
    cases hX
    exact ⟨_, by simp [convert, hu w, hv w, hd, Conv.intToInt], .int _ _⟩
  · rename_i l hd
    refine ⟨_, h, fun A g X w _ hX => ?_⟩
    cases hX with
    | str _ b hs =>
      refine ⟨.string b, ?_, .str _ _ hs⟩
      simp only [convert, Sem.run_bind, hu w, hv w, Result.andThen_ok, hd]
      cases i.d <;> rfl
  · rename_i n rows hd
    split at h
    · rename_i e hs
      split at h
      · rename_i x hx
        split at h
        · rename_i hxd
          obtain ⟨l, rfl, hK⟩ := h.out
          refine ⟨_, hK, fun A g X w hI hX => ?_⟩
          obtain ⟨A', c, rfl, hn, hc, hr⟩ := hX.inv_sl
          have hlen : l.length = n := by rw [← hn]; simp [bytesAV]
          refine ⟨.string ⟨l.toArray⟩, ?_, .str _ _ (by simp)⟩
          have hux := ty.under hx w
          simp only [convert, Sem.run_bind, hu w, hv w, Result.andThen_ok, hd, hs, hux, hxd]
          by_cases h0 : 0 < n
          · obtain ⟨b, o, rfl, hq⟩ := hr h0
            have key : ∃ L, CL g (l.map fun c => AV.int .u8 c.toNat) L ∧ g.lies b o L := by
              have : ∀ i, ∃ V, ∀ hi : i < l.length, VR g (.int .u8 l[i].toNat) V ∧ V.oneCell' = true ∧ g.S b (o + i) = some V := fun i => by
                by_cases hi : i < l.length
                · obtain ⟨L, k1, k2, k3⟩ := hq i (by simpa [bytesAV] using hi)
                  obtain ⟨V, L', rfl, k4, k5⟩ := VL.inv_cons (l := []) (v := .int .u8 l[i].toNat) (by simpa [bytesAV] using k1.toVL)
                  refine ⟨V, fun _ => ⟨k4, k1.one _ (by simp), ?_⟩⟩
                  have := k3 0 V rfl
                  simpa using this
                · exact ⟨undef, fun h => absurd h hi⟩
              obtain ⟨F, hF⟩ := Classical.axiomOfChoice this
              refine ⟨(List.range l.length).map F, ⟨⟨by simp, fun j h1 h2 => ?_⟩, fun v hv => ?_⟩, fun j V hV => ?_⟩
              · simpa using (hF j (by simpa using h1)).1
              · obtain ⟨j, hj, rfl⟩ := List.mem_map.1 hv
                exact (hF j (List.mem_range.1 hj)).2.1
              · obtain ⟨hj, rfl⟩ := List.getElem?_eq_some_iff.1 hV
                simpa using (hF j (by simpa using hj)).2.2
            obtain ⟨L, k1, k2⟩ := key
            have := run_str (P := P) w b o c l L (bytes_run rfl k1) (fun j V hV => hI.sealed _ _ _ (k2 j V hV))
            rw [hlen] at this
            exact this
          · have e0 : l = [] := List.eq_nil_of_length_eq_zero (by omega)
            have en : n = 0 := by omega
            subst e0; subst en
            cases A' with
            | none => rfl
            | some a => rfl
        · exact h.elim
      · exact h.elim
    · exact h.elim
  · exact h.elim
end
end Ab
end Go.Proofs.YtpmigkbcldffeaaGreatDoor

/- Maps of the abstract machine, against the model. -/
namespace Go.Proofs.YtpmigkbcldffeaaGreatDoor
namespace Ab
section
variable {P : Program} {Ty : TypeId → Option TyI}
theorem keyEq_kind {d : TypeDesc} {k x : AV} {b : Bool} (hd : keyKind d k = true) (h : keyEq k x = some b) : keyKind d x = true := by
  cases k <;> (try cases h) <;> cases x <;> (try cases h)
  · unfold keyEq at h
    simp only at h
    split at h
    · rename_i hkb
      have e2 := kindB_eq hkb
      subst e2
      cases d <;> first | exact hd | cases hd
    · cases h
  · cases d <;> first | exact hd | cases hd
  · cases d <;> first | exact hd | cases hd
theorem isKey_of {g : Gh} {d : TypeDesc} {k : AV} {X : Value} (hk : VR g k X) (hd : keyKind d k = true) : MapKept.IsKey d X := by
  cases k <;> cases d <;> (try (cases hd; done))
  · have e := kindB_eq (show kindB _ _ = true from hd)
    cases hk; subst e; exact rfl
  · cases hk; trivial
  · cases hk; trivial
theorem key_same {g : Gh} {d : TypeDesc} {k x : AV} {X Y : Value} {b : Bool} (hk : VR g k X) (hx : VR g x Y) (hd : keyKind d k = true) (h : keyEq k x = some b) : Instr.sameNow d X Y = some b ∧ (b = true → X = Y) := by
  obtain ⟨r, h1, h2⟩ := MapKept.sameNow_of_keys (isKey_of hk hd) (isKey_of hx (keyEq_kind hd h))
  have key : b = true ↔ X = Y := by
    cases k <;> (try cases h) <;> cases x <;> (try cases h)
    · cases hk; cases hx
      unfold keyEq at h
      simp only at h
      split at h
      · rename_i hkb
        have e2 := kindB_eq hkb
        subst e2
        injection h with h
        subst h
        simp
      · cases h
    · cases hk; cases hx; simp
    · cases hk with
      | str _ B hB => cases hx with
        | str _ B' hB' =>
          subst hB; subst hB'
          rw [beq_iff_eq]
          constructor
          · intro e; rw [ByteArray.ext (Array.ext' e)]
          · intro e; injection e with e; rw [e]
  have hb : r = b := by
    cases r <;> cases b <;> simp_all
  rw [hb] at h1
  exact ⟨h1, key.1⟩
theorem mfind_ok {g : Gh} {d : TypeDesc} {k : AV} {X : Value} (hk : VR g k X) (hd : keyKind d k = true) : ∀ (es : List (AV × AV)) (L : List MapEntry) (i : Nat) (r : Option (Nat × AV)), L.length = es.length →
    (∀ j (h : j < es.length) (h' : j < L.length), VR g es[j].1 L[j].key ∧ VR g es[j].2 L[j].val) → mfind k es i = some r →
    (r = none ∧ Instr.findNow d X L i = some none) ∨ ∃ j v e, r = some (i + j, v) ∧ Instr.findNow d X L i = some (some (i + j, e.val)) ∧ L[j]? = some e ∧ e.key = X ∧ VR g v e.val ∧ j < es.length
  | [], L, i, r, hl, _, h => by
    have : L = [] := List.eq_nil_of_length_eq_zero (by simpa using hl)
    subst this
    injection h with h
    exact .inl ⟨h.symm, rfl⟩
  | (x, v) :: es, [], i, r, hl, _, h => by simp at hl
  | (x, v) :: es, e :: L, i, r, hl, hR, h => by
    have h0 := hR 0 (by simp) (by simp)
    unfold mfind at h
    split at h
    · rename_i hq
      obtain ⟨s1, s2⟩ := key_same hk h0.1 hd hq
      injection h with h
      exact .inr ⟨0, v, e, h.symm, by simp only [List.getElem_cons_zero] at s1; simp [Instr.findNow, s1], rfl, (s2 rfl).symm, h0.2, by simp⟩
    · rename_i hq
      obtain ⟨s1, _⟩ := key_same hk h0.1 hd hq
      simp only [List.getElem_cons_zero] at s1
      rcases mfind_ok hk hd es L (i + 1) r (by simpa using hl) (fun j a b => hR (j + 1) (by simpa using a) (by simpa using b)) h with ⟨a1, a2⟩ | ⟨j, v', e', a1, a2, a3, a4, a5, a6⟩
      · exact .inl ⟨a1, by simp [Instr.findNow, s1, a2]⟩
      · refine .inr ⟨j + 1, v', e', by rw [a1]; congr 2; omega, by simp [Instr.findNow, s1, a2]; omega, by simpa using a3, a4, a5, by simp; omega⟩
    · cases h
theorem lookup_ok (ty : TyOk P Ty) {t kt et : TypeId} {i kd j : TyI} (hi : Ty t = some i) (hd : i.d = .map kt et) (hkt : Ty kt = some kd) (het : Ty et = some j) {g : Gh} {w : World} {m : Nat} {es : List (AV × AV)} (hm : MapAt g w m es)
    {k : AV} {X : Value} (hk : VR g k X) (hkk : keyKind kd.d k = true) {r : Option (Nat × AV)} (hr : mfind k es 0 = some r) (ok : Bool) :
    ∃ V, (Instr.lookup t (.map (some m)) X ok).run P w = .ok V w ∧ VR g (mres ok j.zv r) V := by
  obtain ⟨L, clock, hb, hl, hR⟩ := hm
  obtain ⟨z, hz1, hz2⟩ := ty.zero het
  have hX := isKey_of hk hkk
  have hu := ty.under hkt w
  have hck := fun e => MapKept.run_checkKey (P := P) (w := w) (ty.u kt kd hkt) hX e 9999
  have key : ∀ (R : Option (Nat × Value)), Instr.findNow kd.d X L 0 = some R → (Instr.findKey kt X L).run P w = .ok R w := fun R h => MapKept.run_findKey (ty.u kt kd hkt) h
  rcases mfind_ok hk hkk es L 0 r hl hR hr with ⟨rfl, a2⟩ | ⟨q, v, e, rfl, a2, a3, a4, a5, a6⟩
  · cases ok
    · exact ⟨z, by simp [Instr.lookup, ty.under hi w, hd, MapKept.run_getObj_map hb, hck, key _ a2, hz2 w], hz1 g⟩
    · refine ⟨.tuple #[z, .bool false], by simp [Instr.lookup, ty.under hi w, hd, MapKept.run_getObj_map hb, hck, key _ a2, hz2 w], ?_⟩
      have := VR.mk_tup (g := g) (VL.cons (hz1 g) (VL.cons (.bool false) (VL.nil g)))
      exact this
  · cases ok
    · exact ⟨e.val, by simp [Instr.lookup, ty.under hi w, hd, MapKept.run_getObj_map hb, hck, key _ a2], a5⟩
    · refine ⟨.tuple #[e.val, .bool true], by simp [Instr.lookup, ty.under hi w, hd, MapKept.run_getObj_map hb, hck, key _ a2], ?_⟩
      have := VR.mk_tup (g := g) (VL.cons a5 (VL.cons (.bool true) (VL.nil g)))
      exact this
/-- A map's block is another one. -/
def mapSet (w : World) (m : Nat) (o : Obj) : World := { w with heap := w.heap.setIfInBounds m o }
theorem update_ok (ty : TyOk P Ty) {t kt et : TypeId} {i kd : TyI} (hi : Ty t = some i) (hd : i.d = .map kt et) (hkt : Ty kt = some kd) {g : Gh} {w : World} {m : Nat} {es : List (AV × AV)} (hm : MapAt g w m es)
    {k v : AV} {X V : Value} (hk : VR g k X) (hv : VR g v V) (hkk : keyKind kd.d k = true) {r : Option (Nat × AV)} (hr : mfind k es 0 = some r) :
    ∃ L' clock', (Instr.mapUpdate t (.map (some m)) X V).run P w = .ok () (mapSet w m (.map (List.toArray L') clock')) ∧ L'.length = (mput es k v r).length ∧ ∀ j (h : j < (mput es k v r).length) (h' : j < L'.length), VR g (mput es k v r)[j].1 L'[j].key ∧ VR g (mput es k v r)[j].2 L'[j].val := by
  obtain ⟨L, clock, hb, hl, hR⟩ := hm
  have hX := isKey_of hk hkk
  have hck := fun e => MapKept.run_checkKey (P := P) (w := w) (ty.u kt kd hkt) hX e 9999
  have key : ∀ (R : Option (Nat × Value)), Instr.findNow kd.d X L 0 = some R → (Instr.findKey kt X L).run P w = .ok R w := fun R h => MapKept.run_findKey (ty.u kt kd hkt) h
  rcases mfind_ok hk hkk es L 0 r hl hR hr with ⟨rfl, a2⟩ | ⟨q, v0, e, hre, a2, a3, a4, a5, a6⟩
  · refine ⟨L ++ [⟨X, V, clock⟩], clock + 1, by simp [Instr.mapUpdate, ty.under hi w, hd, MapKept.run_getObj_map hb, hck, key _ a2, MapKept.run_setObj_map _ hb, mapSet], by simp [mput, hl], fun j h h' => ?_⟩
    simp only [mput] at h ⊢
    by_cases hj : j < es.length
    · have hj' : j < L.length := by omega
      rw [List.getElem_append_left hj, List.getElem_append_left hj']; exact hR j hj hj'
    · have hj0 : j = es.length := by simp at h; omega
      have hj1 : j = L.length := by omega
      rw [List.getElem_append_right (by omega), List.getElem_append_right (by omega)]
      simp [hj0, hl, hk, hv]
  · rw [Nat.zero_add] at a2 hre
    subst hre
    have hq : q < L.length := (List.getElem?_eq_some_iff.1 a3).1
    have he : L[q] = e := (List.getElem?_eq_some_iff.1 a3).2
    refine ⟨L.set q { e with key := X, val := V }, clock, ?_, by simp [mput, hl], fun j h h' => ?_⟩
    · have hmod : L.toArray.modify q (fun e => { e with key := X, val := V }) = (L.set q { e with key := X, val := V }).toArray := by
        apply Array.ext'
        apply List.ext_getElem?
        intro z
        by_cases ez : q = z
        · subst ez; simp [List.getElem?_modify, hq, he]
        · simp [List.getElem?_modify, List.getElem?_set, ez]
      have hst : (Instr.keyThatStays ((Option.map (fun x => x.key) L[q]?).getD X) X).run P w = .ok X w := by
        rw [a3]; simp only [Option.map_some, Option.getD_some, a4]; exact MapKept.run_keyThatStays hX
      simp only [Instr.mapUpdate, Sem.run_bind, ty.under hi w, hd, Result.andThen_ok, MapKept.run_getObj_map hb, hck, key _ a2, List.getElem?_toArray, hst, hmod, MapKept.run_setObj_map _ hb]
      rfl
    · simp only [mput] at h ⊢
      rw [List.getElem_set, List.getElem_set]
      by_cases e1 : q = j
      · rw [if_pos e1, if_pos e1]; exact ⟨hk, hv⟩
      · rw [if_neg e1, if_neg e1]; exact hR j (by simpa using h) (by simpa using h')
variable {C : Cx} {T : Nat → Option TV} {O : Nat → Option (List AV)} {A : AO} {g : Gh} {ob : Nat → Nat} {a : Act} {w : World}
theorem mapSet_other (w : World) (m : Nat) (o : Obj) {b : Nat} (h : b ≠ m) : (mapSet w m o).heap[b]? = w.heap[b]? := by
  unfold mapSet; simp [Ne.symm h]
theorem mapSet_at {w : World} {m : Nat} {o o' : Obj} (h : w.heap[m]? = some o') : (mapSet w m o).heap[m]? = some o := by
  have hlt : m < w.heap.size := (Array.getElem?_eq_some_iff.1 h).1
  unfold mapSet; simp [hlt]
theorem FR.writeMap (h : FR C T O A g ob a w) {m : Nat} {old : List (AV × AV)} (hm : A.maps m = some old) (es : List (AV × AV)) (L : List MapEntry) (clock : Nat) (hl : L.length = es.length)
    (hR : ∀ j (h : j < es.length) (h' : j < L.length), VR g es[j].1 L[j].key ∧ VR g es[j].2 L[j].val) : FR C T O (A.setMap m es) g ob a (mapSet w m (.map L.toArray clock)) := by
  obtain ⟨L0, c0, hb, _, _⟩ := h.inv.maps m old hm
  have hmp : A.mut m := .inr (.inr (.inl (by rw [hm]; simp)))
  have hmut : ∀ b, (A.setMap m es).mut b ↔ A.mut b := fun b => by
    unfold AO.mut AO.setMap
    by_cases e : b = m
    · subst e; simp [hm]
    · simp [e]
  have hown : ∀ j cs', O j = some cs' → ob j ≠ m := fun j cs' e he => (h.own j cs' e).2.2.1 (he ▸ hmp)
  have hsz : (mapSet w m (.map L.toArray clock)).heap.size = w.heap.size := by unfold mapSet; simp
  refine ⟨h.size, h.defers, h.tm, fun j cs' e => ?_, h.inj, ⟨fun b o v hv => ?_, fun q cs' e => ?_, fun q sz e he => ?_, fun q es' he => ?_, fun q hq => h.inv.apart q hq, fun b n hb => by rw [hsz]; exact h.inv.cps b n hb, fun q t ht => by
      obtain ⟨arr, fr, h1⟩ := h.inv.tys q t ht
      exact ⟨arr, fr, (mapSet_other w m _ (fun e => by subst e; rw [hb] at h1; cases h1)).trans h1⟩⟩, ?_⟩
  · obtain ⟨h1, h2, h3, h4⟩ := h.own j cs' e
    exact ⟨h1.keep (.refl g) (mapSet_other w _ _ (hown j cs' e)), h2, fun hm => h3 ((hmut _).1 hm), h4⟩
  · have h0 := h.inv.sealed b o v hv
    have hne : b ≠ m := fun e => by
      subst e
      simp [World.cell?, hb] at h0
    have := mapSet_other w m (.map L.toArray clock) hne
    simp only [World.cell?] at h0 ⊢
    rw [this]; exact h0
  · obtain ⟨h1, h2⟩ := h.inv.rows q cs' e
    have hne : q ≠ m := fun e' => by
      subst e'
      obtain ⟨_, _, k, _⟩ := h1
      rw [hb] at k; cases k
    exact ⟨h1.keep (.refl g) (mapSet_other w _ _ hne), h2⟩
  · have k := h.inv.toks q sz e he
    have hne : q ≠ m := fun e' => by
      subst e'
      obtain ⟨_, _, _, _, _, k1, _⟩ := k
      rw [hb] at k1; cases k1
    exact k.keep (.refl g) (mapSet_other w _ _ hne) (fun _ ho => ho)
  · unfold AO.setMap at he
    simp only at he
    split at he
    · rename_i hq
      injection he with he; subst he; subst hq
      exact ⟨L, clock, mapSet_at hb, hl, hR⟩
    · rename_i hq
      exact (h.inv.maps q es' he).keep (.refl g) (mapSet_other w _ _ hq)
  · exact h.st.trans ⟨.refl g, rfl, rfl, rfl, by rw [hsz]; exact Nat.le_refl _, fun b hb' hn => mapSet_other w _ _ (fun he => hn (he ▸ hmp)), fun b hb' => .inl ((hmut b).1 hb'), fun _ _ _ _ => rfl⟩
end
end Ab
end Go.Proofs.YtpmigkbcldffeaaGreatDoor
