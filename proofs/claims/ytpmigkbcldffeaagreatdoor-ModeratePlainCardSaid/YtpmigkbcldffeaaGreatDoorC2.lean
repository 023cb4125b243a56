/- Each operation of the abstract machine, against the model. -/
import Derived.Test.YtpmigkbcldffeaaGreatDoorC1
import Derived.Deep.DeepAppendWide
import Derived.Lib.FrozenHead
set_option linter.unusedVariables false
set_option linter.unusedSimpArgs false
set_option linter.unusedSectionVars false
namespace Go.Proofs.YtpmigkbcldffeaaGreatDoor
namespace Ab
section
variable {P : Program} {Ty : TypeId → Option TyI} {C : Cx} {T : Nat → Option TV} {O : Nat → Option (List AV)} {A : AO}

/-- What is known of the world goes on. -/
theorem FR.step {T : Nat → Option TV} {O : Nat → Option (List AV)} {A A' : AO} {g g' : Gh} {ob : Nat → Nat} {a : Act} {w w' : World} (h : FR C T O A g ob a w)
    (hi : Inv A' g' w') (hs : St A g w A' g' w') : FR C T O A' g' ob a w' := by
  refine ⟨h.size, h.defers, fun t v hv => ?_, fun i cs e => ?_, h.inj, hi, h.st.trans hs⟩
  · obtain ⟨V, h1, h2⟩ := h.tm t v hv
    exact ⟨V, h1, h2.mono hs.le⟩
  · obtain ⟨h1, h2, h3, h4⟩ := h.own i cs e
    refine ⟨h1.keep hs.le (hs.block _ h1.lt h3), fun o => by rw [hs.keepS _ o h1.lt h3]; exact h2 o, fun hm => ?_, h4⟩
    rcases hs.fresh _ hm with k | k
    · exact h3 k
    · exact absurd h1.lt (Nat.not_lt.2 k)

theorem FR.evps {T' : Nat → Option TV} {O' : Nat → Option (List AV)} {g : Gh} {ob : Nat → Nat} {a : Act} {w : World} (h : FR C T' O' A g ob a w) (hT : ∀ t x, T t = some x → T' t = some x) :
    ∀ {xs : List (Nat × Operand)} {ps : List (Nat × AV)}, evps T xs = some ps → PL g ps (xs.map fun (i, x) => (i, a.eval x))
  | [], ps, hv => by injection hv with hv; subst hv; exact ⟨rfl, VL.nil g⟩
  | (k, x) :: xs, ps, hv => by
    unfold Ab.evps at hv
    split at hv
    · rename_i v hx
      split at hv
      · rename_i ws hw
        injection hv with hv; subst hv
        have ih := h.evps hT hw
        exact ⟨by simpa using ih.keys, VL.cons (h.ev hT hx) ih.vals⟩
      · cases hv
    · cases hv

theorem FR.evo {T' : Nat → Option TV} {O' : Nat → Option (List AV)} {g : Gh} {ob : Nat → Nat} {a : Act} {w : World} (h : FR C T' O' A g ob a w) (hT : ∀ t x, T t = some x → T' t = some x)
    {x : Option Operand} {v : Option AV} (hv : evo T x = some v) : VO g v (x.map a.eval) := by
  cases x with
  | none => injection hv with hv; subst hv; rfl
  | some x =>
    unfold Ab.evo at hv
    simp only at hv
    split at hv
    · rename_i y hx
      injection hv with hv; subst hv
      exact ⟨_, rfl, h.ev hT hx⟩
    · cases hv

/-- An operation of value that leaves the world alone. -/
theorem OpOk.val {nx : Nat} {o : Oper} {v : TV} {s : (Operand → Value) → Sem Value} (ho : ∀ ρ, execOp ρ o = do pure (.value (← s ρ)))
    (h : ∀ T' O' A', (∀ t x, T t = some x → T' t = some x) → (∀ i x, O i = some x → O' i = some x) → A.sub A' → ∀ g ob a w, FR C T' O' A' g ob a w → ∃ V, (s a.eval).run P w = .ok V w ∧ TR g O' ob v V) :
    OpOk P C nx o T O A v .nop := .value fun T' O' A' hT hO hA g ob a w hF => by
  obtain ⟨V, h1, h2⟩ := h T' O' A' hT hO hA g ob a w hF
  exact ⟨V, by rw [ho]; exact run_v h1, h2⟩

theorem Own.get {O' : Nat → Option (List AV)} (hO : ∀ i x, O i = some x → O' i = some x) {k : Nat} {row : List AV} (h : O k = some row) : O' k = some row := hO k row h

/-- Storing into a row. -/
theorem st_ok (ty : TyOk P Ty) {t : TypeId} {i : TyI} (hi : Ty t = some i) {row : List AV} {off : Nat} {x : AV} {K : List AV → Prop} (h : st i row off x K) :
    ∃ row', K row' ∧ ∀ g (L : List Value) w b T X, CL g row L → w.heap[b]? = some (.cells L.toArray T (0, 0)) → VR g x X → ∃ L', CL g row' L' ∧
      (Instr.storeAt t (.pointer (some ⟨b, off, none⟩)) X).run P w = .ok () (w.setRow b L'.toArray) := by
  unfold st at h
  split at h
  · rename_i hx
    split at h
    · rename_i h1
      split at h
      · rename_i hw
        rw [Bool.and_eq_true] at hw
        have w1 := Nat.eq_of_beq_eq_true hw.1
        have w2 := Nat.eq_of_beq_eq_true hw.2
        refine ⟨_, h, fun g L w b T X hL hb hX => ?_⟩
        have hc := hX.flat hx
        have e1 : X.cells.size = i.size := by have := hc.len; simp at this; rw [this]; exact Nat.eq_of_beq_eq_true h1
        have hs := run_storeCells_at P b off T X.cells.toList 0 L.toArray w hb (by simp; have := hL.len; omega) hc.one
        refine ⟨X.cells.toList, hc, ?_⟩
        subst w1
        have e3 : L.length = X.cells.size := by rw [hL.len, ← w2, e1]
        simp only [Nat.add_zero, List.take_zero, List.nil_append, Nat.zero_add, Array.length_toList] at hs
        rw [List.drop_of_length_le (by omega), List.append_nil] at hs
        simp only [Instr.storeAt, Instr.sureAddr, storeVar, Sem.run_bind, Sem.run_pure, Result.andThen_ok, ty.size hi, e1, ne_eq, not_true_eq_false, if_false]
        exact hs
      split at h
      · rename_i h2
        refine ⟨_, h, fun g L w b T X hL hb hX => ?_⟩
        have hc := hX.flat hx
        have e1 : X.cells.size = i.size := by have := hc.len; simp at this; rw [this]; exact Nat.eq_of_beq_eq_true h1
        have e2 : off + i.size ≤ L.length := by rw [hL.len]; exact Nat.le_of_ble_eq_true h2
        refine ⟨splice L off X.cells.toList, hL.splice off hc, ?_⟩
        have hs := run_storeCells_at P b off T X.cells.toList 0 L.toArray w hb (by simp; omega) hc.one
        rw [splice_eq _ _ _ (by simp; omega)]
        simp only [Instr.storeAt, Instr.sureAddr, storeVar, Sem.run_bind, Sem.run_pure, Result.andThen_ok, ty.size hi, e1, ne_eq, not_true_eq_false, if_false]
        simpa using hs
      · exact h.elim
    · exact h.elim
  · exact h.elim

theorem VR.is_bool {g : Gh} {b : Bool} {X : Value} (h : VR g (.bool b) X) : X = .bool b := by cases h; rfl
theorem VR.is_int {g : Gh} {k : IntKind} {n : Int} {X : Value} (h : VR g (.int k n) X) : X = .int k n := by cases h; rfl
theorem VR.is_gp {g : Gh} {p o : Nat} {X : Value} (h : VR g (.gp p o) X) : X = .pointer (some ⟨p, o, none⟩) := by cases h; rfl
theorem isRow {i : TyI} (h : fieldsOk Ty i = true) : i.agg = true := by unfold fieldsOk at h; unfold TyI.agg; cases hd : i.d <;> simp [hd] at h ⊢

theorem aop_ok (ty : TyOk P Ty) {nx : Nat} {o : Oper} {K : TV → Eff → Prop} (hnx : O nx = none) (h : aop P Ty nx T O A o.op K) : ∃ v eff, K v eff ∧ OpOk P C nx o T O A v eff := by
  cases ho : o.op <;> rw [ho] at h <;> simp only [aop] at h <;> try exact h.elim
  case move x =>
    split at h
    · rename_i v hx
      exact ⟨v, _, h, .value fun T' O' A' hT hO hA g ob a w hF => ⟨_, by unfold execOp; rw [ho]; rfl, hF.ev hT hx⟩⟩
    · exact h.elim
  case assign x =>
    split at h
    · rename_i v hx
      exact ⟨v, _, h, .value fun T' O' A' hT hO hA g ob a w hF => ⟨_, by unfold execOp; rw [ho]; rfl, hF.ev hT hx⟩⟩
    · exact h.elim
  case pick c x y =>
    split at h
    · rename_i hc
      split at h
      · rename_i v hx
        refine ⟨v, _, h, .value fun T' O' A' hT hO hA g ob a w hF => ?_⟩
        have h1 := VR.is_bool (hF.ev hT hc)
        exact ⟨a.eval x, by simp [execOp, ho, h1, asBool], hF.ev hT hx⟩
      · exact h.elim
    · rename_i hc
      split at h
      · rename_i v hx
        refine ⟨v, _, h, .value fun T' O' A' hT hO hA g ob a w hF => ?_⟩
        have h1 := VR.is_bool (hF.ev hT hc)
        exact ⟨a.eval y, by simp [execOp, ho, h1, asBool], hF.ev hT hx⟩
      · exact h.elim
    · exact h.elim
  case alloc e =>
    split at h
    · rename_i i hi
      split at h
      · rename_i hz
        refine ⟨_, _, h, .inr rfl, fun T' O' A' hT hO hA hE hN hd g ob a w hF Q => ?_⟩
        obtain ⟨z, hz1, hz2⟩ := ty.zero hi
        have hn := hN nx _ rfl hnx
        have hc := (hz1 g).flat hz
        have := (hF.alloc nx hn _ _ hc e).put o.dst hd (v := .lp nx 0) (V := .pointer (some ⟨w.heap.size, 0, none⟩)) ⟨by simp [updO], by simp⟩
        unfold Oper.wp execOp
        rw [ho]
        simp only [Instr.alloc, Sem.run_bind, hz2, Result.andThen_ok, newVar, newRow, run_newObj, Sem.run_pure, Oper.upon]
        rw [Array.toArray_toList] at this
        exact ⟨g, _, this⟩
      · exact h.elim
    · exact h.elim
  case box e x =>
    split at h
    · rename_i v hx
      split at h
      · rename_i hz
        refine ⟨_, _, h, .inr rfl, fun T' O' A' hT hO hA hE hN hd g ob a w hF Q => ?_⟩
        have hn := hN nx _ rfl hnx
        have hc := (show VR g v (a.eval x) from hF.ev hT hx).flat hz
        have := (hF.alloc nx hn _ _ hc e).put o.dst hd (v := .lp nx 0) (V := .pointer (some ⟨w.heap.size, 0, none⟩)) ⟨by simp [updO], by simp⟩
        unfold Oper.wp execOp
        rw [ho]
        simp only [Instr.box, Sem.run_bind, Result.andThen_ok, newVar, newRow, run_newObj, Sem.run_pure, Oper.upon]
        rw [Array.toArray_toList] at this
        exact ⟨g, _, this⟩
      · exact h.elim
    · exact h.elim
  case build t parts =>
    split at h
    · rename_i i hi
      split at h
      · rename_i ps hp
        split at h
        · rename_i hf
          have hz : i.agg = true := isRow hf
          split at h
          · rename_i hzo
            obtain ⟨cells, hK, hr⟩ := build_ok ty hi hz hf h hzo
            refine ⟨_, _, hK, .val (s := fun ρ => Instr.build t (parts.map fun (i, x) => (i, ρ x))) (fun ρ => by unfold execOp; rw [ho]) fun T' O' A' hT hO hA g ob a w hF => ?_⟩
            exact hr g w _ (by simpa using hF.evps hT hp)
          · exact h.elim
        · exact h.elim
      · exact h.elim
    · exact h.elim
  case buildSlice t n parts =>
    split at h
    · rename_i i hi
      split at h
      · rename_i e hd
        split at h
        · rename_i j hj
          split at h
          · rename_i ps hp
            split at h
            · rename_i hn
              split at h
              · rename_i hz
                split at h
                · rename_i hzo
                  have hn := Nat.le_of_ble_eq_true hn
                  have hz := Nat.eq_of_beq_eq_true hz
                  obtain ⟨cells, hK, hr⟩ := buildSlice_ok ty hi hd hj hn hz hzo h
                  refine ⟨_, _, hK, trivial, fun T' O' A' hT hO hA hE _ hdst g ob a w hF Q => ?_⟩
                  obtain ⟨L, h1, h2, h3⟩ := hr g w (parts.map fun (i, x) => (i, a.eval x)) (by simpa using hF.evps hT hp)
                  have hF' := hF.new L e
                  have hle := hF.inv.le_new L
                  have hv : VR (g.new w.heap.size L) (.os j.size none n (chop j.size n cells)) (.slice (some ⟨w.heap.size, 0, none⟩) n n) :=
                    VR.mk_osf (chop_length _ _ _) (chop_rows (h1.mono hle) (Gh.new_lies _ _ _) (by omega))
                  have hp := hF'.put o.dst hdst (v := .v _) hv
                  unfold Oper.wp execOp
                  rw [ho]
                  simp only [Sem.run_bind, h3, Result.andThen_ok, Sem.run_pure, Oper.upon]
                  exact ⟨_, _, hp⟩
                · exact h.elim
              · exact h.elim
            · exact h.elim
          · exact h.elim
        · exact h.elim
      · exact h.elim
    · exact h.elim
  case load t x =>
    split at h
    · rename_i i hi
      split at h
      · rename_i k off hx
        split at h
        · rename_i row hrow
          obtain ⟨v, hK, hr⟩ := ld_ok (P := P) ty hi h
          refine ⟨_, _, hK, .val (s := fun ρ => Instr.loadAt t (ρ x)) (fun ρ => by unfold execOp; rw [ho]) fun T' O' A' hT hO hA g ob a w hF => ?_⟩
          obtain ⟨_, e⟩ := hF.ev hT hx
          obtain ⟨L, hL, hc⟩ := (hF.own k row (hO k row hrow)).1.cells
          obtain ⟨V, h1, h2⟩ := hr g L w (ob k) 0 hL hc
          rw [Nat.zero_add] at h1
          exact ⟨V, by rw [e]; exact h1, h2⟩
        · exact h.elim
      · rename_i p off hx
        obtain ⟨row, hrow, hk⟩ := h.out
        obtain ⟨v, hK, hr⟩ := ld_ok (P := P) ty hi hk
        refine ⟨_, _, hK, .val (s := fun ρ => Instr.loadAt t (ρ x)) (fun ρ => by unfold execOp; rw [ho]) fun T' O' A' hT hO hA g ob a w hF => ?_⟩
        have e := VR.is_gp (hF.ev hT hx)
        obtain ⟨L, hL, hc⟩ := (hF.inv.rows p row (hA.rows p row hrow)).1.cells
        obtain ⟨V, h1, h2⟩ := hr g L w p 0 hL hc
        rw [Nat.zero_add] at h1
        exact ⟨V, by rw [e]; exact h1, h2⟩
      · rename_i cells hx
        obtain ⟨v, hK, hr⟩ := ld_ok (P := P) ty hi h
        refine ⟨_, _, hK, .val (s := fun ρ => Instr.loadAt t (ρ x)) (fun ρ => by unfold execOp; rw [ho]) fun T' O' A' hT hO hA g ob a w hF => ?_⟩
        obtain ⟨b, o', L, e, hL, hl⟩ := VR.inv_ip (hF.ev hT hx)
        obtain ⟨V, h1, h2⟩ := hr g L w b o' hL (fun j V hV => hF.inv.sealed _ _ _ (hl j V hV))
        exact ⟨V, by rw [e]; exact h1, h2⟩
      · exact h.elim
    · exact h.elim
  case store t x y =>
    split at h
    · rename_i i hi
      split at h
      · rename_i v hy
        split at h
        · rename_i k off hx
          split at h
          · rename_i row hrow
            obtain ⟨row', hK, hr⟩ := st_ok (P := P) ty hi h
            refine ⟨_, _, hK, .inl (by rw [hrow]; simp), fun T' O' A' hT hO hA hE _ hdst g ob a w hF Q => ?_⟩
            obtain ⟨hne, e⟩ := hF.ev hT hx
            obtain ⟨⟨L, T0, hb, hL⟩, _⟩ := hF.own k row (hO k row hrow)
            obtain ⟨L', h1, h2⟩ := hr g L w (ob k) T0 (a.eval y) hL hb (hF.ev hT hy)
            have hp := (hF.write hne row' L' h1).put o.dst hdst (v := undefTV) (V := undef) (.raw _)
            unfold Oper.wp execOp
            rw [ho]
            simp only [Sem.run_bind, e, h2, Result.andThen_ok, Sem.run_pure, Oper.upon]
            exact ⟨_, _, hp⟩
          · exact h.elim
        · rename_i p off hx
          obtain ⟨row, hrow, hk⟩ := h.out
          obtain ⟨row', hK, hr⟩ := st_ok (P := P) ty hi hk
          refine ⟨_, _, hK, trivial, fun T' O' A' hT hO hA hE _ hdst g ob a w hF Q => ?_⟩
          obtain rfl := hE _ rfl
          have e := VR.is_gp (hF.ev hT hx)
          obtain ⟨⟨L, T0, hb, hL⟩, _⟩ := hF.inv.rows p row hrow
          obtain ⟨L', h1, h2⟩ := hr g L w p T0 (a.eval y) hL hb (hF.ev hT hy)
          have hp := (hF.writeRow hrow row' L' h1).put o.dst hdst (v := undefTV) (V := undef) (.raw _)
          unfold Oper.wp execOp
          rw [ho]
          simp only [Sem.run_bind, e, h2, Result.andThen_ok, Sem.run_pure, Oper.upon]
          exact ⟨_, _, hp⟩
        · exact h.elim
      · exact h.elim
    · exact h.elim
  case nilCheck x =>
    split at h
    · rename_i k off hx
      refine ⟨_, _, h, .value fun T' O' A' hT hO hA g ob a w hF => ?_⟩
      have e := hF.ev hT hx
      exact ⟨_, by simp [execOp, ho, e.2], e.1, rfl⟩
    · rename_i p off hx
      refine ⟨_, _, h, .value fun T' O' A' hT hO hA g ob a w hF => ?_⟩
      have e := hF.ev hT hx
      exact ⟨_, by simp [execOp, ho, VR.is_gp e], .gp _ _⟩
    · rename_i c hx
      refine ⟨_, _, h, .value fun T' O' A' hT hO hA g ob a w hF => ?_⟩
      have e := hF.ev hT hx
      obtain ⟨b, o', L, e', hL, hl⟩ := VR.inv_ip e
      exact ⟨_, by simp [execOp, ho, e'], VR.mk_ip hL hl⟩
    · exact h.elim
  case binOp op t x y u =>
    split at h
    · rename_i va hx
      split at h
      · rename_i vb hy
        obtain ⟨v, hK, hr⟩ := abin_ok (P := P) ty h
        refine ⟨_, _, hK, .val (s := fun ρ => do eqGuard op t x y (ρ x) (ρ y); binOp op t (ρ x) (ρ y)) (fun ρ => by unfold execOp; rw [ho]) fun T' O' A' hT hO hA g ob a w hF => ?_⟩
        exact hr g w _ _ x y (hF.ev hT hx) (hF.ev hT hy)
      · exact h.elim
    · exact h.elim
  case unOp op t x =>
    split at h
    · rename_i b hx
      split at h
      · refine ⟨_, _, h, .val (s := fun ρ => Op.unary .not (ρ x)) (fun ρ => by unfold execOp; rw [ho]) fun T' O' A' hT hO hA g ob a w hF => ?_⟩
        have e := VR.is_bool (hF.ev hT hx)
        exact ⟨_, by simp [e, Op.unary], .bool _⟩
      · exact h.elim
    · rename_i k n hx
      split at h
      · refine ⟨_, _, h.out, .val (s := fun ρ => Op.unary .neg (ρ x)) (fun ρ => by unfold execOp; rw [ho]) fun T' O' A' hT hO hA g ob a w hF => ?_⟩
        have e := VR.is_int (hF.ev hT hx)
        exact ⟨_, by simp [e, Op.unary, Op.intArith], .int _ _⟩
      · exact h.elim
    · exact h.elim
  case convert s d x =>
    split at h
    · rename_i i hi
      split at h
      · rename_i j hj
        split at h
        · rename_i va hx
          obtain ⟨v, hK, hr⟩ := aconv_ok (P := P) ty hi hj h
          refine ⟨_, _, hK, .val (s := fun ρ => convert s d (ρ x)) (fun ρ => by unfold execOp; rw [ho]) fun T' O' A' hT hO hA g ob a w hF => ?_⟩
          exact hr A' g _ w hF.inv (hF.ev hT hx)
        · rename_i k off n c hx
          split at h
          · rename_i e hd hdj
            split at h
            · rename_i z hz
              split at h
              · rename_i hzd
                split at h
                · rename_i row hrow
                  obtain ⟨hlen, hk⟩ := h.out
                  obtain ⟨l, hl, hK⟩ := hk.out
                  refine ⟨_, _, hK, .val (s := fun ρ => convert s d (ρ x)) (fun ρ => by unfold execOp; rw [ho]) fun T' O' A' hT hO hA g ob a w hF => ?_⟩
                  obtain ⟨hne, hc, e'⟩ := hF.ev hT hx
                  obtain ⟨L, hL, hcell⟩ := (hF.own k row (hO k row hrow)).1.cells
                  have hn : l.length = n := by
                    have := congrArg List.length hl
                    rw [chop_length] at this
                    simpa [bytesAV] using this.symm
                  have hcs : (row.drop off).take n = l.map fun c => .int .u8 c.toNat := by
                    apply List.ext_getElem?
                    intro m
                    by_cases hm : m < n
                    · have h1 := chop_get 1 n (row.drop off) m
                      rw [hl, if_pos hm] at h1
                      have hm' : m < l.length := by omega
                      have h2 : ((row.drop off).drop (m * 1)).take 1 = [.int .u8 l[m].toNat] := by
                        have : (bytesAV l)[m]? = some [.int .u8 l[m].toNat] := by simp [bytesAV, hm']
                        rw [this] at h1
                        injection h1 with h1
                        exact h1.symm
                      have h3 : row[off + m]? = some (.int .u8 l[m].toNat) := by
                        have := congrArg (fun x : List AV => x[0]?) h2
                        simpa using this
                      simp [hm, h3, hm']
                    · rw [List.getElem?_eq_none (by simp; omega), List.getElem?_eq_none (by simp; omega)]
                  have hrun := run_str (P := P) w (ob k) off c l ((L.drop off).take n) (bytes_run hcs ((hL.drop off).take n)) (by have := (hcell.drop off).take n; rwa [Nat.zero_add] at this)
                  rw [hn] at hrun
                  refine ⟨.string ⟨l.toArray⟩, ?_, .str _ _ (by simp)⟩
                  simp only [e', convert, Sem.run_bind, ty.under hi w, ty.under hj w, ty.under hz w, Result.andThen_ok, hd, hdj, hzd]
                  exact hrun
                · exact h.elim
              · exact h.elim
            · exact h.elim
          · exact h.elim
        · exact h.elim
      · exact h.elim
    · exact h.elim
  case makeInterface t x =>
    split at h
    · rename_i i hi
      split at h
      · exact h.elim
      · rename_i hni
        split at h
        · rename_i va hx
          refine ⟨_, _, h, .val (s := fun ρ => Instr.makeInterface t (ρ x)) (fun ρ => by unfold execOp; rw [ho]) fun T' O' A' hT hO hA g ob a w hF => ?_⟩
          refine ⟨_, ?_, .iface t _ _ (hF.ev hT hx)⟩
          simp only [Instr.makeInterface, Sem.run_bind, ty.under hi w, Result.andThen_ok, Sem.run_pure]
        · exact h.elim
    · exact h.elim
  case makeFunc f first cap =>
    split at h
    · rename_i fs hfs
      split at h
      · rename_i cs hcs
        refine ⟨_, _, h, .val (s := fun ρ => Instr.makeFunc f (first.map ρ) (cap.map ρ)) (fun ρ => by unfold execOp; rw [ho]) fun T' O' A' hT hO hA g ob a w hF => ?_⟩
        have h1 := hF.evs hT hfs
        have h2 := hF.evs hT hcs
        refine ⟨_, rfl, ?_⟩
        have := VR.mk_fn f h1 h2
        have e1 : (first.toList.map a.eval).toArray = first.map a.eval := by apply Array.ext'; simp
        have e2 : (cap.toList.map a.eval).toArray = cap.map a.eval := by apply Array.ext'; simp
        rw [e1, e2] at this
        exact this
      · exact h.elim
    · exact h.elim
  case slice t x lo hi' mx =>
    split at h
    · rename_i i hi
      split at h
      · rename_i v hx
        split at h
        · rename_i l hl
          split at h
          · rename_i hh hhh
            split at h
            · rename_i m hm
              obtain ⟨v', hK, hr⟩ := asl_ok (P := P) ty hi h
              refine ⟨_, _, hK, .val (s := fun ρ => Instr.sliceAt t (ρ x) (lo.map ρ) (hi'.map ρ) (mx.map ρ)) (fun ρ => by unfold execOp; rw [ho]) fun T' O' A' hT hO hA g ob a w hF => ?_⟩
              exact hr g O' ob _ _ _ _ w (hF.ev hT hx) (hF.evo hT hl) (hF.evo hT hhh) (hF.evo hT hm)
            · exact h.elim
          · exact h.elim
        · exact h.elim
      · exact h.elim
    · exact h.elim
  case fieldAddr s x f =>
    split at h
    · rename_i i hi
      split at h
      · rename_i fs hd
        split at h
        · rename_i off size hp
          split at h
          · rename_i hs
            have hs : size ≠ 0 := fun e => by rw [e] at hs; cases hs
            have hp' : ∃ fd j, fs[f]? = some fd ∧ Ty fd.type = some j ∧ off = fd.offset ∧ size = j.size := by
              unfold place at hp
              rw [hd] at hp
              simp only at hp
              split at hp
              · rename_i fd hfd
                rw [fieldOf_eq] at hfd
                split at hp
                · rename_i j hj
                  injection hp with hp
                  injection hp with e1 e2
                  exact ⟨fd, j, by simpa using hfd, hj, e1.symm, e2.symm⟩
                · cases hp
              · cases hp
            obtain ⟨fd, j, h1, h2, rfl, rfl⟩ := hp'
            have hrun : ∀ (b o' : Nat) w, (Instr.fieldAt s (.pointer (some ⟨b, o', none⟩)) f).run P w = .ok (.pointer (some ⟨b, o' + fd.offset, none⟩)) w := fun b o' w => by
              simp only [Instr.fieldAt, Sem.run_bind, ty.under hi w, Result.andThen_ok, hd, h1, Instr.sureAddr, Sem.run_pure, fieldPlace, ty.size h2 w, if_neg hs, addr_add]
            split at h
            · rename_i k o' hx
              refine ⟨_, _, h, .val (s := fun ρ => Instr.fieldAt s (ρ x) f) (fun ρ => by unfold execOp; rw [ho]) fun T' O' A' hT hO hA g ob a w hF => ?_⟩
              obtain ⟨k1, k2⟩ := hF.ev hT hx
              exact ⟨_, by rw [k2]; exact hrun _ _ _, k1, rfl⟩
            · rename_i p o' hx
              refine ⟨_, _, h, .val (s := fun ρ => Instr.fieldAt s (ρ x) f) (fun ρ => by unfold execOp; rw [ho]) fun T' O' A' hT hO hA g ob a w hF => ?_⟩
              exact ⟨_, by rw [VR.is_gp (hF.ev hT hx)]; exact hrun _ _ _, .gp _ _⟩
            · rename_i cells hx
              refine ⟨_, _, h, .val (s := fun ρ => Instr.fieldAt s (ρ x) f) (fun ρ => by unfold execOp; rw [ho]) fun T' O' A' hT hO hA g ob a w hF => ?_⟩
              obtain ⟨b, o', L, e', hL, hl⟩ := VR.inv_ip (hF.ev hT hx)
              refine ⟨_, by rw [e']; exact hrun _ _ _, VR.mk_ip (hL.drop fd.offset) (fun m V hV => ?_)⟩
              rw [List.getElem?_drop] at hV
              rw [Nat.add_assoc]; exact hl _ _ hV
            · exact h.elim
          · exact h.elim
        · exact h.elim
      · exact h.elim
    · exact h.elim
  case field s x f =>
    split at h
    · rename_i i hi
      split at h
      · rename_i fs hd
        split at h
        · rename_i fd hfd
          rw [fieldOf_eq] at hfd
          split at h
          · rename_i j hj
            split at h
            · rename_i cs hx
              obtain ⟨v, hK, hr⟩ := part_ok ty hj h
              refine ⟨_, _, hK, .val (s := fun ρ => Instr.field s (ρ x) f) (fun ρ => by unfold execOp; rw [ho]) fun T' O' A' hT hO hA g ob a w hF => ?_⟩
              obtain ⟨L, e', hL⟩ := VR.inv_agg (hF.ev hT hx)
              obtain ⟨V, h1, h2⟩ := hr g L w hL
              refine ⟨V, ?_, h2⟩
              have : fs[f]? = some fd := by simpa using hfd
              simp only [Instr.field, Sem.run_bind, ty.under hi w, Result.andThen_ok, hd, this, e', asAgg, Sem.run_pure, h1]
            · exact h.elim
          · exact h.elim
        · exact h.elim
      · exact h.elim
    · exact h.elim
  case indexAddr t x ix =>
    split at h
    · rename_i i hi
      split at h
      · rename_i k n hix
        split at h
        · rename_i v hx
          obtain ⟨v', hK, hr⟩ := apos_ok (P := P) ty hi h
          refine ⟨_, _, hK, .val (s := fun ρ => Instr.indexAt t (ρ x) (ρ ix)) (fun ρ => by unfold execOp; rw [ho]) fun T' O' A' hT hO hA g ob a w hF => ?_⟩
          rw [VR.is_int (hF.ev hT hix)]
          exact hr g O' ob _ k w (hF.ev hT hx)
        · exact h.elim
      · exact h.elim
    · exact h.elim
  case index t x ix =>
    split at h
    · rename_i i hi
      split at h
      · rename_i k n hix
        split at h
        · rename_i v hx
          obtain ⟨v', hK, hr⟩ := aindex_ok (P := P) ty hi h
          refine ⟨_, _, hK, .val (s := fun ρ => Instr.index t (ρ x) (ρ ix)) (fun ρ => by unfold execOp; rw [ho]) fun T' O' A' hT hO hA g ob a w hF => ?_⟩
          rw [VR.is_int (hF.ev hT hix)]
          exact hr g _ k w (hF.ev hT hx)
        · exact h.elim
      · exact h.elim
    · exact h.elim
  case lookup t x y ok =>
    split at h
    · rename_i i hi
      split at h
      · rename_i kt et hd
        split at h
        · rename_i kd hkt
          split at h
          · rename_i j het
            split at h
            · rename_i m hx
              split at h
              · rename_i k hy
                split at h
                · rename_i hkk
                  obtain ⟨es, r, hm, hr, hK⟩ := h.out_
                  refine ⟨_, _, hK, .val (s := fun ρ => Instr.lookup t (ρ x) (ρ y) ok) (fun ρ => by unfold execOp; rw [ho]) fun T' O' A' hT hO hA g ob a w hF => ?_⟩
                  have e : a.eval x = .map (some m) := by
                    have := hF.ev hT hx
                    revert this
                    generalize a.eval x = X
                    intro hX
                    cases (show VR g (.map m) X from hX); rfl
                  rw [e]
                  exact lookup_ok ty hi hd hkt het (hF.inv.maps m es (hA.maps m es hm)) (hF.ev hT hy) hkk hr ok
                · exact h.elim
              · exact h.elim
            · exact h.elim
          · exact h.elim
        · exact h.elim
      · exact h.elim
    · exact h.elim
  case mapUpdate t x y z =>
    split at h
    · rename_i i hi
      split at h
      · rename_i kt et hd
        split at h
        · rename_i kd hkt
          split at h
          · rename_i m hx
            split at h
            · rename_i k hy
              split at h
              · rename_i v hz
                split at h
                · rename_i hkk
                  obtain ⟨es, r, hm, hr, hK⟩ := h.out_
                  refine ⟨_, _, hK, trivial, fun T' O' A' hT hO hA hE _ hdst g ob a w hF Q => ?_⟩
                  obtain rfl := hE _ rfl
                  have e : a.eval x = .map (some m) := by
                    have := hF.ev hT hx
                    revert this
                    generalize a.eval x = X
                    intro hX
                    cases (show VR g (.map m) X from hX); rfl
                  obtain ⟨L', clock', h1, h2, h3⟩ := update_ok ty hi hd hkt (hF.inv.maps m es hm) (hF.ev hT hy) (hF.ev hT hz) hkk hr
                  have hp := (hF.writeMap hm _ L' clock' h2 h3).put o.dst hdst (v := undefTV) (V := undef) (.raw _)
                  unfold Oper.wp execOp
                  rw [ho]
                  simp only [Sem.run_bind, e, h1, Result.andThen_ok, Sem.run_pure, Oper.upon]
                  exact ⟨_, _, hp⟩
                · exact h.elim
              · exact h.elim
            · exact h.elim
          · exact h.elim
        · exact h.elim
      · exact h.elim
    · exact h.elim
  case insert t x y z =>
    split at h
    · rename_i i hi
      split at h
      · rename_i kt et hd
        split at h
        · rename_i kd hkt
          split at h
          · rename_i m hx
            split at h
            · rename_i k hy
              split at h
              · rename_i v hz
                split at h
                · rename_i hkk
                  obtain ⟨es, r, hm, hr, hK⟩ := h.out_
                  refine ⟨_, _, hK, trivial, fun T' O' A' hT hO hA hE _ hdst g ob a w hF Q => ?_⟩
                  obtain rfl := hE _ rfl
                  have e : a.eval x = .map (some m) := by
                    have := hF.ev hT hx
                    revert this
                    generalize a.eval x = X
                    intro hX
                    cases (show VR g (.map m) X from hX); rfl
                  obtain ⟨L', clock', h1, h2, h3⟩ := update_ok ty hi hd hkt (hF.inv.maps m es hm) (hF.ev hT hy) (hF.ev hT hz) hkk hr
                  have hp := (hF.writeMap hm _ L' clock' h2 h3).put o.dst hdst (v := undefTV) (V := undef) (.raw _)
                  unfold Oper.wp execOp
                  rw [ho]
                  simp only [Sem.run_bind, e, h1, Result.andThen_ok, Sem.run_pure, Oper.upon]
                  exact ⟨_, _, hp⟩
                · exact h.elim
              · exact h.elim
            · exact h.elim
          · exact h.elim
        · exact h.elim
      · exact h.elim
    · exact h.elim
  case typeAssert x t0 t ok =>
    split at h
    · rename_i i hi
      have key : ∀ (ni : ∀ ms, i.d ≠ .interface ms) (t' : TypeId) (V : Value) (w : World), (Instr.typeAssert (.iface t' V) t0 t ok).run P w =
          (if t' = t then (pure (if ok then .tuple #[V, .bool true] else V) : Sem Value) else do if ok then pure (.tuple #[← zeroValue t, .bool false]) else Instr.typeAssert (.iface t' V) t0 t ok).run P w := fun ni t' V w => by
        by_cases e : t' = t
        · rw [if_pos e]
          unfold Instr.typeAssert
          simp only [Sem.run_bind, ty.under hi w, Result.andThen_ok]
          cases hd : i.d <;> first | exact absurd hd (ni _) | (simp only [if_pos e])
        · rw [if_neg e]
          cases ok
          · rfl
          · unfold Instr.typeAssert
            simp only [Sem.run_bind, ty.under hi w, Result.andThen_ok]
            cases hd : i.d <;> first | exact absurd hd (ni _) | (simp only [if_neg e]; rfl)
      split at h
      · exact h.elim
      · rename_i hni
        have ni : ∀ ms, i.d ≠ .interface ms := fun ms e => hni ms e
        split at h
        · rename_i t' va hx
          split at h
          · rename_i ht
            have ht := Nat.eq_of_beq_eq_true ht
            split at h
            · refine ⟨_, _, h, .val (s := fun ρ => Instr.typeAssert (ρ x) t0 t true) (fun ρ => by unfold execOp; rw [ho]) fun T' O' A' hT hO hA g ob a w hF => ?_⟩
              have hv := hF.ev hT hx
              generalize a.eval x = X at hv
              cases (show VR g (.iface t' va) X from hv) with
              | iface _ _ V hV =>
                refine ⟨.tuple #[V, .bool true], ?_, VR.mk_tup (VL.cons hV (VL.cons (.bool true) (VL.nil g)))⟩
                rw [key ni, if_pos ht]; rfl
            · refine ⟨_, _, h, .val (s := fun ρ => Instr.typeAssert (ρ x) t0 t false) (fun ρ => by unfold execOp; rw [ho]) fun T' O' A' hT hO hA g ob a w hF => ?_⟩
              have hv := hF.ev hT hx
              generalize a.eval x = X at hv
              cases (show VR g (.iface t' va) X from hv) with
              | iface _ _ V hV =>
                refine ⟨V, ?_, hV⟩
                rw [key ni, if_pos ht]; rfl
          · rename_i ht
            have ht : t' ≠ t := Nat.ne_of_beq_eq_false ht
            split at h
            · refine ⟨_, _, h, .val (s := fun ρ => Instr.typeAssert (ρ x) t0 t true) (fun ρ => by unfold execOp; rw [ho]) fun T' O' A' hT hO hA g ob a w hF => ?_⟩
              have hv := hF.ev hT hx
              generalize a.eval x = X at hv
              cases (show VR g (.iface t' va) X from hv) with
              | iface _ _ V hV =>
                obtain ⟨z, hz1, hz2⟩ := ty.zero hi
                refine ⟨.tuple #[z, .bool false], ?_, VR.mk_tup (VL.cons (hz1 g) (VL.cons (.bool false) (VL.nil g)))⟩
                rw [key ni, if_neg ht]
                simp [hz2 w]
            · exact h.elim
        · exact h.elim
    · exact h.elim
  case extract x n =>
    split at h
    · rename_i vs hx
      split at h
      · rename_i v hv
        rw [nth_eq] at hv
        refine ⟨_, _, h, .val (s := fun ρ => Instr.extract (ρ x) n) (fun ρ => by unfold execOp; rw [ho]) fun T' O' A' hT hO hA g ob a w hF => ?_⟩
        obtain ⟨L, e', hL⟩ := VR.inv_tup (hF.ev hT hx)
        obtain ⟨V, h1, h2⟩ := hL.getElem? hv
        refine ⟨V, ?_, h2⟩
        have : L.toArray[n]? = some V := by simpa using h1
        simp only [e', Instr.extract, this, Sem.run_pure]
      · exact h.elim
    · exact h.elim
  case call c =>
    split at h
    · rename_i f hc
      split at h
      · rename_i gf first cap hf
        split at h
        · rename_i az has
          obtain ⟨hent, v, hspec, hK⟩ := h.out
          refine ⟨_, _, hK, trivial, fun T' O' A' hT hO hA hE _ hdst g ob a w hF Q => ?_⟩
          obtain ⟨F, Cc, e', hF1, hC1⟩ := VR.inv_fn (hF.ev hT hf)
          have hargs := (hF1.append (hF.evs hT has)).append hC1
          have hcall := hspec A' g w _ hF.inv hF.cst hargs
          unfold Oper.wp execOp
          rw [ho]
          have hrun : (do let d ← resolve a.eval c o.type; invoke d.target d.args : Sem Next).run P w = .ok (.enter gf (F ++ c.args.toList.map a.eval ++ Cc).toArray) w := by
            simp only [Sem.run_bind, resolve, hc, e', Deferred.ofValue, Sem.run_pure, Result.andThen_ok, invoke]
            rw [show (F.toArray ++ c.args.map a.eval ++ Cc.toArray) = (F ++ c.args.toList.map a.eval ++ Cc).toArray from by apply Array.ext'; simp]
            exact hent _ w
          simp only [hrun, Oper.upon]
          refine hcall.mono ?_
          rintro e w' ⟨v', A', g', V, rfl, ⟨rfl, rfl⟩, hr, hI, hS⟩
          exact ⟨g', ob, (hF.step hI hS).put o.dst hdst hr⟩
        · exact h.elim
      · exact h.elim
    · rename_i hc
      split at h
      · rename_i x hargs
        split at h
        · rename_i t ts hat
          split at h
          · rename_i i hi
            split at h
            · rename_i v hx
              obtain ⟨n, hK, hr⟩ := alen_ok (P := P) ty hi h
              refine ⟨_, _, hK, .value fun T' O' A' hT hO hA g ob a w hF => ?_⟩
              have := hr g O' ob (a.eval x) o.type c.argTypes w (by rw [← Array.getElem?_toList, hat]; rfl) (hF.ev hT hx)
              refine ⟨_, ?_, .int _ _⟩
              have ea : c.args.map a.eval = #[a.eval x] := by apply Array.ext'; simp [hargs]
              unfold execOp
              rw [ho]
              simp only [resolve, hc, Sem.run_bind, Sem.run_pure, Result.andThen_ok, invoke, builtin, ea, this]
            · exact h.elim
          · exact h.elim
        · exact h.elim
      · exact h.elim
    · rename_i hc
      split at h
      · rename_i x hargs
        split at h
        · rename_i t hat
          split at h
          · rename_i i hi
            split at h
            · rename_i e hd
              split at h
              · rename_i j hj
                split at h
                · rename_i sz p off n hx
                  split at h
                  · rename_i hz
                    rw [Bool.and_eq_true, Bool.and_eq_true] at hz
                    obtain ⟨hz1, hz2, hz3⟩ := hz
                    have hz2 := Nat.eq_of_beq_eq_true hz2
                    have hz3 : 0 < sz := Nat.le_of_ble_eq_true (show Nat.ble 1 sz = true from hz3)
                    obtain ⟨row, hrow, hk⟩ := h.out
                    obtain ⟨⟨hn, hl⟩, hK⟩ := hk.out
                    refine ⟨_, _, hK, trivial, fun T' O' A' hT hO hA hE _ hdst g ob a w hF Q => ?_⟩
                    obtain rfl := hE _ rfl
                    obtain ⟨c0, hX, hc0⟩ : ∃ c, a.eval x = .slice (some ⟨p, off, none⟩) n c ∧ n ≤ c := by
                      have := hF.ev hT hx
                      revert this
                      generalize a.eval x = X
                      intro hX
                      cases (show VR g (.gs sz p off n) X from hX) with
                      | gs _ _ _ _ c hc => exact ⟨c, rfl, hc⟩
                    obtain ⟨⟨L, T0, hb, hL⟩, _⟩ := hF.inv.rows p row hrow
                    obtain ⟨z, hzv, hzr⟩ := ty.zero hj
                    have hzc := (hzv g).flat hz1
                    have hzs : z.cells.size = sz := by have := hzc.len; simp at this; omega
                    have hrep := CL.rep hzc n
                    have hLlen := hL.len
                    have hlen : ((List.replicate n z.cells.toList).flatten).length = n * sz := by rw [rep_length]; simp [hzs]
                    have hs := run_storeCells_at P p off T0 ((List.replicate n z.cells.toList).flatten) 0 L.toArray w hb (by rw [hlen]; simp; omega) hrep.one
                    have hsp := hL.splice off hrep
                    have e9 := splice_eq ((List.replicate n z.cells.toList).flatten) L off (by rw [hlen]; omega)
                    rw [e9] at hsp
                    have hp := (hF.writeRow hrow _ _ hsp).put o.dst hdst (v := .v (.tup [])) (V := .tuple #[]) (by
                      have := VR.mk_tup (g := g) (VL.nil g); exact this)
                    have ea : c.args.map a.eval = #[.slice (some ⟨p, off, none⟩) n c0] := by apply Array.ext'; simp [hargs, hX]
                    have et : c.argTypes[0]? = some t := by rw [← Array.getElem?_toList, hat]; rfl
                    have ezc : (Builtin.zeroCells z.cells n).toList = (List.replicate n z.cells.toList).flatten := by
                      unfold Builtin.zeroCells
                      rw [zeros_eq z.cells n (by omega)]
                    have hne : n ≠ 0 := by omega
                    obtain ⟨n', rfl⟩ : ∃ n', n = n' + 1 := ⟨n - 1, by omega⟩
                    have hrun : (Builtin.clear_ c.argTypes o.type (c.args.map a.eval)).run P w = .ok (.tuple #[]) (w.setRow p (L.take off ++ (List.replicate (n' + 1) z.cells.toList).flatten ++ L.drop (off + ((List.replicate (n' + 1) z.cells.toList).flatten).length)).toArray) := by
                      simp only [Nat.add_zero] at hs
                      have ea0 : (c.args.map a.eval)[0]? = some (.slice (some ⟨p, off, none⟩) (n' + 1) c0) := by rw [ea]; rfl
                      unfold Builtin.clear_
                      rw [ea0, et]
                      simp only [Sem.run_bind, ty.under hi w, hd, Result.andThen_ok, hzr, ezc, hs, Sem.run_pure]
                    unfold Oper.wp execOp
                    rw [ho]
                    simp only [resolve, hc, Sem.run_bind, Sem.run_pure, Result.andThen_ok, invoke, builtin, hrun, Oper.upon]
                    exact ⟨_, _, hp⟩
                  · exact h.elim
                · exact h.elim
              · exact h.elim
            · exact h.elim
          · exact h.elim
        · exact h.elim
      · exact h.elim
    · rename_i hc
      split at h
      · rename_i x y hargs
        split at h
        · rename_i t ts hat
          split at h
          · rename_i i hi
            split at h
            · rename_i e hd
              split at h
              · rename_i j hj
                split at h
                · rename_i hs
                  have hs := Nat.eq_of_beq_eq_true hs
                  split at h
                  · rename_i k off n c0 hx
                    split at h
                    · rename_i s hy
                      split at h
                      · rename_i row hrow
                        obtain ⟨hfit, hK⟩ := h.out
                        refine ⟨_, _, hK, .inl (by rw [hrow]; simp), fun T' O' A' hT hO hA hE _ hdst g ob a w hF Q => ?_⟩
                        obtain ⟨hne, _, ex⟩ := hF.ev hT hx
                        obtain ⟨⟨L, T0, hb, hL⟩, _⟩ := hF.own k row (hO k row hrow)
                        have hyv := hF.ev hT hy
                        obtain ⟨B, ey, hB⟩ : ∃ B, a.eval y = .string B ∧ B.data.toList = s := by
                          revert hyv
                          generalize a.eval y = Y
                          intro hY
                          cases (show VR g (.str s) Y from hY) with
                          | str _ B hB => exact ⟨B, rfl, hB⟩
                        have hBs : B.size = s.length := by rw [← hB]; show B.data.size = _; simp
                        have hvs : CL g ((s.take n).map fun c => AV.int .u8 c.toNat) ((s.take n).map fun c => Value.int .u8 c.toNat) :=
                          ⟨⟨by simp, fun m h1 h2 => by simp only [List.getElem_map]; exact .int _ _⟩, fun v hv => by
                            obtain ⟨c, _, rfl⟩ := List.mem_map.1 hv; rfl⟩
                        have hl0 : ((s.take n).map fun c => Value.int .u8 c.toNat).length = min n s.length := by simp
                        have hLl := hL.len
                        have hst := run_storeCells_at P (ob k) off T0 ((s.take n).map fun c => Value.int .u8 c.toNat) 0 L.toArray w hb (by rw [hl0]; simp; omega) hvs.one
                        have hsp := hL.splice off hvs
                        have e9 := splice_eq ((s.take n).map fun c => Value.int .u8 c.toNat) L off (by rw [hl0]; omega)
                        rw [e9] at hsp
                        have hp := (hF.write hne _ _ hsp).put o.dst hdst (v := .v (.int .i64 (min s.length n : Nat))) (V := .int .i64 (min s.length n : Nat)) (.int _ _)
                        have ea : c.args.map a.eval = #[.slice (some ⟨ob k, off, none⟩) n c0, .string B] := by apply Array.ext'; simp [hargs, ex, ey]
                        have et : c.argTypes[0]? = some t := by rw [← Array.getElem?_toList, hat]; rfl
                        have efc : ((B.extract 0 (Nat.min s.length n)).data.map fun b => Value.int .u8 b.toNat) = ((s.take n).map fun c => Value.int .u8 c.toNat).toArray := by
                          apply Array.ext'
                          simp only [Array.toList_map, ByteArray.data_extract, Array.toList_extract, hB, List.extract_eq_take_drop, List.drop_zero, Nat.sub_zero]
                          congr 1
                          show s.take (Nat.min s.length n) = _
                          rw [show Nat.min s.length n = min s.length n from rfl, List.take_eq_take_iff]
                          omega
                        have hrun : (Builtin.copy_ c.argTypes o.type (c.args.map a.eval)).run P w = .ok (.int .i64 (min s.length n : Nat)) (w.setRow (ob k) (L.take off ++ ((s.take n).map fun c => Value.int .u8 c.toNat) ++ L.drop (off + ((s.take n).map fun c => Value.int .u8 c.toNat).length)).toArray) := by
                          simp only [Nat.add_zero] at hst
                          have ea0 : (c.args.map a.eval)[0]? = some (.slice (some ⟨ob k, off, none⟩) n c0) := by rw [ea]; rfl
                          have ea1 : (c.args.map a.eval)[1]? = some (.string B) := by rw [ea]; rfl
                          unfold Builtin.copy_
                          rw [ea0, ea1, et]
                          simp only [Sem.run_bind, ty.under hi w, hd, Result.andThen_ok, Builtin.lenOf, hBs, Sem.run_pure, ty.size hj w, hs, Builtin.firstCells, efc, hst]
                          rfl
                        unfold Oper.wp execOp
                        rw [ho]
                        simp only [resolve, hc, Sem.run_bind, Sem.run_pure, Result.andThen_ok, invoke, builtin, hrun, Oper.upon]
                        exact ⟨_, _, hp⟩
                      · exact h.elim
                    · exact h.elim
                  · exact h.elim
                · exact h.elim
              · exact h.elim
            · exact h.elim
          · exact h.elim
        · exact h.elim
      · exact h.elim
    · rename_i hc
      split at h
      · rename_i x y hargs
        split at h
        · rename_i k va hx
          split at h
          · rename_i k' vb hy
            refine ⟨_, _, h.out, .value fun T' O' A' hT hO hA g ob a w hF => ?_⟩
            have ex := VR.is_int (hF.ev hT hx)
            have ey := VR.is_int (hF.ev hT hy)
            have ea : c.args.map a.eval = #[.int k va, .int k' vb] := by apply Array.ext'; simp [hargs, ex, ey]
            refine ⟨_, ?_, .int _ _⟩
            unfold execOp
            rw [ho]
            simp only [resolve, hc, Sem.run_bind, Sem.run_pure, Result.andThen_ok, invoke, builtin, ea, Builtin.min_, List.foldlM, Builtin.min2]
            by_cases hlt : vb < va <;> simp [hlt]
          · exact h.elim
        · exact h.elim
      · exact h.elim
    · rename_i hc
      split at h
      · rename_i x y hargs
        split at h
        · rename_i k va hx
          split at h
          · rename_i k' vb hy
            refine ⟨_, _, h.out, .value fun T' O' A' hT hO hA g ob a w hF => ?_⟩
            have ex := VR.is_int (hF.ev hT hx)
            have ey := VR.is_int (hF.ev hT hy)
            have ea : c.args.map a.eval = #[.int k va, .int k' vb] := by apply Array.ext'; simp [hargs, ex, ey]
            refine ⟨_, ?_, .int _ _⟩
            unfold execOp
            rw [ho]
            simp only [resolve, hc, Sem.run_bind, Sem.run_pure, Result.andThen_ok, invoke, builtin, ea, Builtin.max_, List.foldlM, Builtin.max2]
            by_cases hlt : vb > va <;> simp [hlt]
          · exact h.elim
        · exact h.elim
      · exact h.elim
    · exact h.elim
end
end Ab
end Go.Proofs.YtpmigkbcldffeaaGreatDoor

/- The abstract machine: regions, code, functions. -/
namespace Go.Proofs.YtpmigkbcldffeaaGreatDoor
namespace Ab

abbrev TM := List (Nat × TV)
abbrev OW := List (List AV)

def AO.kill (A : AO) : Option Nat → AO
  | none => A
  | some b => { A with toks := fun q => if q = b then none else A.toks q }
def AO.tok (A : AO) (ob : Option Nat) (sz e : Nat) : AO :=
  match ob with
  | none => A
  | some b => { A with toks := fun q => if q = b then some (sz, e) else A.toks q }

/-- A variable that others may reach. -/
structure HK (A : AO) (e : TypeId) (cs : List AV) (K : Nat → AO → Prop) : Prop where in_ ::
  out_ : ∀ p, ¬ A.mut p → K p ((A.setTy p e).setRow p cs)
theorem HK.mk {A : AO} {e : TypeId} {cs : List AV} {K : Nat → AO → Prop} (h : ∀ p, ¬ A.mut p → K p ((A.setTy p e).setRow p cs)) : HK A e cs K := by refine ⟨?_⟩; exact h
theorem HK.out {A : AO} {e : TypeId} {cs : List AV} {K : Nat → AO → Prop} (h : HK A e cs K) : ∀ p, ¬ A.mut p → K p ((A.setTy p e).setRow p cs) := by exact h.out_
/-- An append fits. -/
def apFit (n b : Nat) : Prop := n * (b + 1) ≤ 70368744177664 ∨ ((n + n / 4 + 192) * b ≤ 281474976710656 ∧ n ≤ 4611686018427387904)
/-- An append. -/
structure AK (A : AO) (sz0 sz bytes : Nat) (T : TypeId) (ob : Option Nat) (e : Nat) (rows new : List (List AV)) (K : Option Nat → AO → Prop) : Prop where in_ ::
  out_ : rows.length = e ∧ (rows = [] ∨ sz0 = sz) ∧ (∀ b, ob = some b → A.toks b = some (sz, e)) ∧ (∀ r ∈ new, r.length = sz) ∧ apFit (e + new.length) bytes ∧
    ∀ ob' A', ((ob' = ob ∧ A' = (A.kill ob).tok ob' sz (e + new.length)) ∨ ∃ p, ob' = some p ∧ ¬ A.mut p ∧ A' = ((A.kill ob).tok ob' sz (e + new.length)).setTy p T) → (ob = none → new ≠ [] → ob' ≠ none) → K ob' A'
theorem AK.mk {A : AO} {sz0 sz bytes : Nat} {T : TypeId} {ob : Option Nat} {e : Nat} {rows new : List (List AV)} {K : Option Nat → AO → Prop} (h1 : rows.length = e) (h0 : rows = [] ∨ sz0 = sz) (h2 : ∀ b, ob = some b → A.toks b = some (sz, e))
    (h3 : ∀ r ∈ new, r.length = sz) (h4 : (e + new.length) * (bytes + 1) ≤ 70368744177664) (h5 : ∀ ob' A', ((ob' = ob ∧ A' = (A.kill ob).tok ob' sz (e + new.length)) ∨ ∃ p, ob' = some p ∧ ¬ A.mut p ∧ A' = ((A.kill ob).tok ob' sz (e + new.length)).setTy p T) → K ob' A') : AK A sz0 sz bytes T ob e rows new K := by
  refine ⟨?_⟩; exact ⟨h1, h0, h2, h3, .inl h4, fun ob' A' h _ => h5 ob' A' h⟩
theorem AK.mk2 {A : AO} {sz0 sz bytes : Nat} {T : TypeId} {ob : Option Nat} {e : Nat} {rows new : List (List AV)} {K : Option Nat → AO → Prop} (h1 : rows.length = e) (h0 : rows = [] ∨ sz0 = sz) (h2 : ∀ b, ob = some b → A.toks b = some (sz, e))
    (h3 : ∀ r ∈ new, r.length = sz) (h4 : (e + new.length) * (bytes + 1) ≤ 70368744177664) (h5 : ∀ ob' A', ((ob' = ob ∧ A' = (A.kill ob).tok ob' sz (e + new.length)) ∨ ∃ p, ob' = some p ∧ ¬ A.mut p ∧ A' = ((A.kill ob).tok ob' sz (e + new.length)).setTy p T) → (ob = none → new ≠ [] → ob' ≠ none) → K ob' A') : AK A sz0 sz bytes T ob e rows new K := by
  refine ⟨?_⟩; exact ⟨h1, h0, h2, h3, .inl h4, h5⟩
theorem AK.wide {A : AO} {sz0 sz bytes : Nat} {T : TypeId} {ob : Option Nat} {e : Nat} {rows new : List (List AV)} {K : Option Nat → AO → Prop} (h1 : rows.length = e) (h0 : rows = [] ∨ sz0 = sz) (h2 : ∀ b, ob = some b → A.toks b = some (sz, e))
    (h3 : ∀ r ∈ new, r.length = sz) (h4 : (e + new.length + (e + new.length) / 4 + 192) * bytes ≤ 281474976710656) (h6 : e + new.length ≤ 4611686018427387904) (h5 : ∀ ob' A', ((ob' = ob ∧ A' = (A.kill ob).tok ob' sz (e + new.length)) ∨ ∃ p, ob' = some p ∧ ¬ A.mut p ∧ A' = ((A.kill ob).tok ob' sz (e + new.length)).setTy p T) → K ob' A') : AK A sz0 sz bytes T ob e rows new K := by
  refine ⟨?_⟩; exact ⟨h1, h0, h2, h3, .inr ⟨h4, h6⟩, fun ob' A' h _ => h5 ob' A' h⟩
theorem AK.out {A : AO} {sz0 sz bytes : Nat} {T : TypeId} {ob : Option Nat} {e : Nat} {rows new : List (List AV)} {K : Option Nat → AO → Prop} (h : AK A sz0 sz bytes T ob e rows new K) :
  rows.length = e ∧ (rows = [] ∨ sz0 = sz) ∧ (∀ b, ob = some b → A.toks b = some (sz, e)) ∧ (∀ r ∈ new, r.length = sz) ∧ apFit (e + new.length) bytes ∧
    ∀ ob' A', ((ob' = ob ∧ A' = (A.kill ob).tok ob' sz (e + new.length)) ∨ ∃ p, ob' = some p ∧ ¬ A.mut p ∧ A' = ((A.kill ob).tok ob' sz (e + new.length)).setTy p T) → (ob = none → new ≠ [] → ob' ≠ none) → K ob' A' := by exact h.out_

/-- A new map. -/
structure NM (A : AO) (K : Nat → AO → Prop) : Prop where in_ ::
  out_ : ∀ p, ¬ A.mut p → K p (A.setMap p [])
theorem NM.mk {A : AO} {K : Nat → AO → Prop} (h : ∀ p, ¬ A.mut p → K p (A.setMap p [])) : NM A K := ⟨h⟩

/-- What is appended. -/
def srcRows : AV → Option (List (List AV))
  | .sl _ _ rows => some rows
  | .os _ _ _ rows => some rows
  | .str s => some (bytesAV s)
  | _ => none

def memb : List Nat → Nat → Bool
  | [], _ => false
  | x :: r, n => match Nat.beq x n with | true => true | false => memb r n
def shared (sh : List Nat) (o : Oper) : Bool :=
  match o.dst with
  | some d => memb sh d
  | none => false

/-- Any operation, where the order is fixed. -/
def nop (P : Program) (Ty : TypeId → Option TyI) (sh : List Nat) (nx : Nat) (T : Nat → Option TV) (O : Nat → Option (List AV)) (A : AO) (o : Oper) (K : TV → Eff → Prop) : Prop :=
  match o.op with
  | .makeMap _ none => NM A fun p A' => K (.v (.map p)) (.out A')
  | .alloc e => match shared sh o with
    | true => match Ty e with
      | some i => match i.zv.okv with
        | true => HK A e i.zv.cells fun p A' => K (.v (.gp p 0)) (.out A')
        | false => False
      | none => False
    | false => aop P Ty nx T O A (.alloc e) K
  | .box e x => match shared sh o with
    | true => match ev T x with
      | some (.v a) => match a.okv with
        | true => HK A e a.cells fun p A' => K (.v (.gp p 0)) (.out A')
        | false => False
      | _ => False
    | false => aop P Ty nx T O A (.box e x) K
  | .call c => match c.callee with
    | .value f => match ev T f with
      | some (.v (.fn (.func g) first cap)) => match evs T c.args.toList with
        | some az => CK P g (first ++ az ++ cap) A fun v A' => K (.v v) (.out A')
        | none => False
      | _ => False
    | .builtin .append => match c.args.toList with
      | [s, x] => match c.argTypes.toList with
        | [st, xt] => match Ty st with
          | some i => match i.d with
            | .slice e => match Ty e with
              | some j => match Ty xt with
                | some k => match k.d with
                  | .int _ => False
                  | _ => match ev T s with
                    | some (.v (.os sz ob n rows)) => match ev T x with
                      | some (.v a) => match srcRows a with
                        | some new => match Nat.beq j.zv.cells.length j.size with
                          | true => match j.zv.okv with
                            | true => AK A sz j.size j.bytes e ob n rows new fun ob' A' => K (.v (.os j.size ob' (n + new.length) (rows ++ new))) (.out A')
                            | false => False
                          | false => False
                        | none => False
                      | _ => False
                    | _ => False
                | none => False
              | none => False
            | _ => False
          | none => False
        | _ => False
      | _ => False
    | b => aop P Ty nx T O A (.call { c with callee := b }) K
  | op => aop P Ty nx T O A op K

def setO : OW → Nat → List AV → OW
  | [], 0, cs => [cs]
  | [], _ + 1, _ => []
  | _ :: r, 0, cs => cs :: r
  | x :: r, n + 1, cs => x :: setO r n cs
def effO (own : OW) : Eff → OW
  | .own i cs => setO own i cs
  | _ => own
def putT (tm : TM) (d : Option Tmp) (v : TV) : TM :=
  match d with
  | some d => (d, v) :: tm
  | none => tm
def opAt : List Oper → Nat → Option Oper
  | [], _ => none
  | o :: _, 0 => some o
  | _ :: r, n + 1 => opAt r n

def wantB (l0 : List Oper) (T : Nat → Option TV) (o : Oper) (K : Bool → Prop) : Prop :=
  match o.guard with
  | none => K true
  | some (j, b) => match opAt l0 j with
    | some oj => match oj.dst with
      | some d => match T d with
        | some (.v (.bool true)) => K b
        | some (.v (.bool false)) => K (!b)
        | some (.v (.raw (.tuple _))) => K false
        | _ => False
      | none => False
    | none => False

def dstOk (N : Nat) (o : Oper) : Bool :=
  match o.dst with
  | some d => Nat.blt d N
  | none => true

noncomputable def aops (P : Program) (Ty : TypeId → Option TyI) (N : Nat) (sh : List Nat) (l0 l : List Oper) : (TM → OW → AO → Prop) → TM → OW → AO → Prop :=
  List.rec (motive := fun _ => (TM → OW → AO → Prop) → TM → OW → AO → Prop) (fun K => K)
    (fun o _ ih K tm own A => wantB l0 (look tm) o fun wn => match dstOk N o with
      | true => match wn with
        | true => nop P Ty sh own.length (look tm) (own? own) A o fun v eff => ih K (putT tm o.dst v) (effO own eff) (eff.A A)
        | false => ih K (putT tm o.dst undefTV) own A
      | false => False) l
theorem aops_nil {P : Program} {Ty : TypeId → Option TyI} {N : Nat} {sh : List Nat} {l0 : List Oper} {K : TM → OW → AO → Prop} : aops P Ty N sh l0 [] K = K := rfl
theorem aops_cons {P : Program} {Ty : TypeId → Option TyI} {N : Nat} {sh : List Nat} {l0 : List Oper} {o : Oper} {rest : List Oper} {K : TM → OW → AO → Prop} {tm : TM} {own : OW} {A : AO} : aops P Ty N sh l0 (o :: rest) K tm own A =
    wantB l0 (look tm) o fun wn => match dstOk N o with
    | true => match wn with
      | true => nop P Ty sh own.length (look tm) (own? own) A o fun v eff => aops P Ty N sh l0 rest K (putT tm o.dst v) (effO own eff) (eff.A A)
      | false => aops P Ty N sh l0 rest K (putT tm o.dst undefTV) own A
    | false => False := rfl

/-- What is known less. -/
def TSub (n : Nat) : TV → TV → Prop
  | .v a, .v b => Sub a b
  | .lp i o, .lp j o' => i = j ∧ o = o' ∧ i < n
  | .ls i o k c, .ls j o' k' c' => i = j ∧ o = o' ∧ k = k' ∧ c = c' ∧ i < n
  | _, _ => False
def leT (n : Nat) (tm : TM) : TM → Prop
  | [] => True
  | (t, v) :: r => (match look tm t with | some u => TSub n u v | none => False) ∧ leT n tm r
def leO : OW → OW → Prop
  | _, [] => True
  | r :: rs, r' :: rs' => Subs r r' ∧ leO rs rs'
  | [], _ :: _ => False
structure Le (tm : TM) (own : OW) (A : AO) (tm' : TM) (own' : OW) (A' : AO) : Prop where
  t : leT own'.length tm tm'
  o : leO own own'
  a : A.le A'

/-- A loop. -/
structure LK (B : (Exit → TM → OW → AO → Prop) → TM → OW → AO → Prop) (K : Exit → TM → OW → AO → Prop) (tm : TM) (own : OW) (A : AO) : Prop where in_ ::
  out_ : ∃ (ι : Type) (s : ι → TM) (r : ι → OW) (m : ι → AO) (μ : ι → Nat) (i0 : ι), Le tm own A (s i0) (r i0) (m i0) ∧
    ∀ i, B (fun e tm' own' A' => match e with | .normal => ∃ j, Le tm' own' A' (s j) (r j) (m j) ∧ μ j < μ i | e => K e tm' own' A') (s i) (r i) (m i)
theorem LK.mk {B : (Exit → TM → OW → AO → Prop) → TM → OW → AO → Prop} {K : Exit → TM → OW → AO → Prop} {tm : TM} {own : OW} {A : AO} {ι : Type} (s : ι → TM) (r : ι → OW) (m : ι → AO) (μ : ι → Nat) (i0 : ι)
    (h0 : Le tm own A (s i0) (r i0) (m i0))
    (h : ∀ i, B (fun e tm' own' A' => match e with | .normal => ∃ j, Le tm' own' A' (s j) (r j) (m j) ∧ μ j < μ i | e => K e tm' own' A') (s i) (r i) (m i)) : LK B K tm own A := by
  refine ⟨?_⟩; exact ⟨ι, s, r, m, μ, i0, h0, h⟩
theorem LK.out {B : (Exit → TM → OW → AO → Prop) → TM → OW → AO → Prop} {K : Exit → TM → OW → AO → Prop} {tm : TM} {own : OW} {A : AO} (h : LK B K tm own A) :
  ∃ (ι : Type) (s : ι → TM) (r : ι → OW) (m : ι → AO) (μ : ι → Nat) (i0 : ι), Le tm own A (s i0) (r i0) (m i0) ∧
    ∀ i, B (fun e tm' own' A' => match e with | .normal => ∃ j, Le tm' own' A' (s j) (r j) (m j) ∧ μ j < μ i | e => K e tm' own' A') (s i) (r i) (m i) := by exact h.out_
/-- Less may be known: a join. -/
structure JK (K : TM → OW → AO → Prop) (tm : TM) (own : OW) (A : AO) : Prop where in_ ::
  out_ : ∃ tm' own' A', Le tm own A tm' own' A' ∧ K tm' own' A'
theorem JK.mk {K : TM → OW → AO → Prop} {tm : TM} {own : OW} {A : AO} {tm' : TM} {own' : OW} {A' : AO} (h : Le tm own A tm' own' A') (k : K tm' own' A') : JK K tm own A := by refine ⟨?_⟩; exact ⟨_, _, _, h, k⟩

/-- The end of a function. -/
structure FK (Q : AV → AO → Prop) (v : AV) (A : AO) : Prop where in_ ::
  out_ : ∃ v' A', Sub v v' ∧ A.le A' ∧ Q v' A'
theorem FK.mk {Q : AV → AO → Prop} {v v' : AV} {A A' : AO} (h : Sub v v') (k : A.le A') (q : Q v' A') : FK Q v A := by refine ⟨?_⟩; exact ⟨_, _, h, k, q⟩
theorem FK.out {Q : AV → AO → Prop} {v : AV} {A : AO} (h : FK Q v A) : ∃ v' A', Sub v v' ∧ A.le A' ∧ Q v' A' := by exact h.out_

def resV (Ty : TypeId → Option TyI) (tm : TM) (own : OW) (A : AO) : ResultVar → (AV → Prop) → Prop
  | .tmp t, K => match look tm t with
    | some (.v a) => K a
    | _ => False
  | .cell t ty, K => match Ty ty with
    | some i => match look tm t with
      | some (.lp k off) => match own? own k with
        | some row => ld i row off K
        | none => False
      | some (.v (.gp p off)) => GK A p fun row => ld i row off K
      | _ => False
    | none => False
def resVs (Ty : TypeId → Option TyI) (tm : TM) (own : OW) (A : AO) : List ResultVar → (List AV → Prop) → Prop
  | [], K => K []
  | r :: rs, K => resV Ty tm own A r fun v => resVs Ty tm own A rs fun vs => K (v :: vs)
def fin (Ty : TypeId → Option TyI) (rs : List ResultVar) (Q : AV → AO → Prop) (tm : TM) (own : OW) (A : AO) : Prop :=
  match rs with
  | [r] => resV Ty tm own A r fun v => FK Q v A
  | rs => resVs Ty tm own A rs fun vs => FK Q (.tup vs) A

abbrev KT := Exit → TM → OW → AO → Prop
noncomputable def awp (P : Program) (Ty : TypeId → Option TyI) (N : Nat) (sh : List Nat) (D : List Oper → (TM → OW → AO → Prop) → TM → OW → AO → Prop) (c : Code) : KT → TM → OW → AO → Prop :=
  Code.rec (motive := fun _ => KT → TM → OW → AO → Prop)
    (fun K => K .normal)
    (fun _ ops draw K => match draw with
      | false => aops P Ty N sh ops.toList ops.toList (K .normal)
      | true => D ops.toList (K .normal))
    (fun _ _ iha ihb K => iha fun e => match e with
      | .normal => ihb K
      | e => K e)
    (fun c _ _ iht ihe K tm own A => match ev (look tm) c with
      | some (.v (.bool true)) => iht K tm own A
      | some (.v (.bool false)) => ihe K tm own A
      | _ => False)
    (fun id _ ih K => ih fun e => match e with
      | .exit id' => match Nat.beq id' id with
        | true => K .normal
        | false => K (.exit id')
      | e => K e)
    (fun _ ih K => LK ih K)
    (fun _ _ _ _ _ _ _ _ _ _ => False)
    (fun id K => K (.exit id))
    (fun _ _ _ _ _ _ => False)
    (fun _ K => K .normal)
    (fun _ _ _ _ _ => False)
    (fun K => K .ret)
    (fun _ _ _ _ _ => False) c
end Ab
end Go.Proofs.YtpmigkbcldffeaaGreatDoor

/- Regions, code and functions of the abstract machine, against the model. -/
namespace Go.Proofs.YtpmigkbcldffeaaGreatDoor
namespace Ab
section
variable {P : Program} {Ty : TypeId → Option TyI} {C : Cx}

theorem look_put (tm : TM) (d : Option Tmp) (v : TV) : look (putT tm d v) = updT (look tm) d v := by
  funext t
  unfold putT updT
  cases d with
  | none => simp
  | some d =>
    simp only [look]
    by_cases e : d = t
    · subst e; simp
    · have : Nat.beq d t = false := by
        cases hb : Nat.beq d t with
        | false => rfl
        | true => exact absurd (Nat.eq_of_beq_eq_true hb) e
      rw [this]
      simp [Ne.symm e]
theorem setO_get (cs : List AV) : ∀ (own : OW) (i j : Nat), i ≤ own.length → own? (setO own i cs) j = if j = i then some cs else own? own j
  | [], 0, j, _ => by cases j <;> simp [setO, own?]
  | [], _ + 1, _, h => by simp at h
  | x :: r, 0, j, _ => by cases j <;> simp [setO, own?]
  | x :: r, i + 1, j, h => by
    cases j with
    | zero => simp [setO, own?]
    | succ j => simp [setO, own?, setO_get cs r i j (by simpa using h)]
theorem effO_get (own : OW) (eff : Eff) (h : EffOk (own? own) own.length eff) : own? (effO own eff) = eff.O (own? own) := by
  cases eff with
  | nop => rfl
  | out A => rfl
  | own i cs =>
    have hi : i ≤ own.length := by
      rcases h with h | h
      · rw [own?_eq] at h
        exact Nat.le_of_lt (Classical.byContradiction fun hc => h (List.getElem?_eq_none (Nat.not_lt.1 hc)))
      · exact Nat.le_of_eq h
    funext j
    exact setO_get cs own i j hi

theorem opAt_eq : ∀ (l : List Oper) (n : Nat), opAt l n = l[n]?
  | [], _ => rfl
  | _ :: _, 0 => rfl
  | _ :: r, n + 1 => opAt_eq r n

theorem FR.wanted {ops : Array Oper} {T T' : Nat → Option TV} {O : Nat → Option (List AV)} {A : AO} {g : Gh} {ob : Nat → Nat} {a : Act} {w : World} (hF : FR C T' O A g ob a w) (hT : ∀ t x, T t = some x → T' t = some x)
    {o : Oper} {K : Bool → Prop} (h : wantB ops.toList T o K) : K (Region.wanted o (yielded ops a.tmps)) := by
  unfold wantB at h
  unfold Region.wanted
  split at h
  · rename_i hg; rw [hg]; exact h
  · rename_i j b hg
    rw [hg]
    split at h
    · rename_i oj hoj
      rw [opAt_eq] at hoj
      have hoj' : ops[j]? = some oj := by simpa using hoj
      split at h
      · rename_i d hd
        have key : ∀ V, a.tmps[d]? = some V → yielded ops a.tmps j = (match V with | .bool b => some b | _ => none) := fun V hV => by
          unfold yielded
          simp only [hoj', Option.bind_some, hd, hV]
          cases V <;> rfl
        show K (yielded ops a.tmps j == some b)
        split at h
        · rename_i ht
          obtain ⟨V, h1, h2⟩ := hF.tm d _ (hT _ _ ht)
          have := VR.is_bool h2
          subst this
          rw [key _ h1]
          cases b <;> exact h
        · rename_i ht
          obtain ⟨V, h1, h2⟩ := hF.tm d _ (hT _ _ ht)
          have := VR.is_bool h2
          subst this
          rw [key _ h1]
          cases b <;> exact h
        · rename_i vs ht
          obtain ⟨V, h1, h2⟩ := hF.tm d _ (hT _ _ ht)
          have : V = .tuple vs := by cases h2; rfl
          subst this
          rw [key _ h1]
          exact h
        · exact h.elim
      · exact h.elim
    · exact h.elim

/-- A call, whatever it leaves behind. -/
theorem FR.call {T : Nat → Option TV} {O : Nat → Option (List AV)} {A : AO} {g : Gh} {ob : Nat → Nat} {a : Act} {w : World} (hF : FR C T O A g ob a w) {o : Oper} {c : Call} (ho : o.op = .call c) {f : Operand} (hc : c.callee = .value f)
    {gf : FuncId} {first cap az : List AV} (hf : Ab.ev T f = some (.v (.fn (.func gf) first cap))) (has : Ab.evs T c.args.toList = some az) {K : AV → AO → Prop} (h : CK P gf (first ++ az ++ cap) A K) (hd : ∀ t, o.dst = some t → t < C.N) (Q : Exit → Act → World → Prop) :
    o.wp P a w (fun a' w' => ∃ v A' g', K v A' ∧ FR C (updT T o.dst (.v v)) O A' g' ob a' w') Q := by
  obtain ⟨hent, Qs, hspec, hK⟩ := h.out
  obtain ⟨F, Cc, e', hF1, hC1⟩ := VR.inv_fn (hF.ev (fun _ _ h => h) hf)
  have hargs := (hF1.append (hF.evs (fun _ _ h => h) has)).append hC1
  have hcall := hspec g w _ hF.inv hF.cst hargs
  unfold Oper.wp execOp
  rw [ho]
  have hrun : (do let d ← resolve a.eval c o.type; invoke d.target d.args : Sem Next).run P w = .ok (.enter gf (F ++ c.args.toList.map a.eval ++ Cc).toArray) w := by
    simp only [Sem.run_bind, resolve, hc, e', Deferred.ofValue, Sem.run_pure, Result.andThen_ok, invoke]
    rw [show (F.toArray ++ c.args.map a.eval ++ Cc.toArray) = (F ++ c.args.toList.map a.eval ++ Cc).toArray from by apply Array.ext'; simp]
    exact hent _ w
  simp only [hrun, Oper.upon]
  refine hcall.mono ?_
  rintro e w' ⟨v', A', g', V, rfl, hq, hr, hI, hS⟩
  exact ⟨v', A', g', hK _ _ hq, (hF.step hI hS).put o.dst hd hr⟩

/-- A variable that others may reach. -/
theorem FR.share {T : Nat → Option TV} {O : Nat → Option (List AV)} {A : AO} {g : Gh} {ob : Nat → Nat} {a : Act} {w : World} (hF : FR C T O A g ob a w) {cs : List AV} {L : List Value} (hL : CL g cs L) (Te : TypeId) :
    ¬ A.mut w.heap.size ∧ FR C T O ((A.setTy w.heap.size Te).setRow w.heap.size cs) g ob a (w.alloc (.cells L.toArray Te)) := by
  have hn : ¬ A.mut w.heap.size := fun h => absurd (hF.inv.mut_lt h) (Nat.lt_irrefl _)
  refine ⟨hn, hF.step (A' := (A.setTy w.heap.size Te).setRow w.heap.size cs) ⟨fun b o v hv => ?_, fun p cs' e => ?_, fun p sz e he => ?_, fun p es he => ?_, fun p hp => ?_, fun b n hb => by have := hF.inv.cps b n hb; simp; omega, fun p t ht => ?_⟩ ⟨.refl g, rfl, rfl, rfl, by simp, fun b hb _ => alloc_heap_lt hb, fun b hb => ?_, fun _ _ _ _ => rfl⟩⟩
  · rw [World.cell?_alloc_lt w _ ⟨b, o, none⟩ (hF.inv.seal_lt hv)]; exact hF.inv.sealed _ _ _ hv
  · unfold AO.setRow AO.setTy at e
    simp only at e
    split at e
    · rename_i hp; subst hp
      injection e with e; subst e
      exact ⟨⟨L, Te, heap_alloc_new w _, hL⟩, fun o => hF.inv.seal_none o (Nat.le_refl _)⟩
    · obtain ⟨h1, h2⟩ := hF.inv.rows p cs' e
      exact ⟨h1.keep (.refl g) (alloc_heap_lt h1.lt), h2⟩
  · have k := hF.inv.toks p sz e he
    exact k.keep (.refl g) (alloc_heap_lt k.lt) (fun _ ho => ho)
  · have k := hF.inv.maps p es he
    exact k.keep (.refl g) (alloc_heap_lt k.lt)
  · unfold AO.setRow AO.setTy at hp
    simp only at hp
    split at hp
    · rename_i e; subst e
      exact Classical.byContradiction fun hc => hn (.inr (.inl hc))
    · exact hF.inv.apart p hp
  · unfold AO.setTy AO.setRow at ht
    simp only at ht
    split at ht
    · rename_i e; subst e
      injection ht with ht; subst ht
      exact ⟨_, _, heap_alloc_new w _⟩
    · exact (hF.inv.tys p t ht).alloc
  · by_cases e : b = w.heap.size
    · exact .inr (Nat.le_of_eq e.symm)
    · refine .inl ?_
      unfold AO.mut AO.setRow AO.setTy at hb
      simpa [e, AO.mut] using hb
theorem FR.newMap {T : Nat → Option TV} {O : Nat → Option (List AV)} {A : AO} {g : Gh} {ob : Nat → Nat} {a : Act} {w : World} (hF : FR C T O A g ob a w) :
    ¬ A.mut w.heap.size ∧ FR C T O (A.setMap w.heap.size []) g ob a (w.alloc (.map #[] 0)) := by
  have hn : ¬ A.mut w.heap.size := fun h => absurd (hF.inv.mut_lt h) (Nat.lt_irrefl _)
  refine ⟨hn, hF.step (A' := A.setMap w.heap.size []) ⟨fun b o v hv => ?_, fun p cs' e => ?_, fun p sz e he => ?_, fun p es he => ?_, fun p hp => hF.inv.apart p hp, fun b n hb => by have := hF.inv.cps b n hb; simp; omega, fun p t ht => (hF.inv.tys p t ht).alloc⟩ ⟨.refl g, rfl, rfl, rfl, by simp, fun b hb _ => alloc_heap_lt hb, fun b hb => ?_, fun _ _ _ _ => rfl⟩⟩
  · rw [World.cell?_alloc_lt w _ ⟨b, o, none⟩ (hF.inv.seal_lt hv)]; exact hF.inv.sealed _ _ _ hv
  · obtain ⟨h1, h2⟩ := hF.inv.rows p cs' e
    exact ⟨h1.keep (.refl g) (alloc_heap_lt h1.lt), h2⟩
  · have k := hF.inv.toks p sz e he
    exact k.keep (.refl g) (alloc_heap_lt k.lt) (fun _ ho => ho)
  · unfold AO.setMap at he
    simp only at he
    split at he
    · rename_i hp; subst hp
      injection he with he; subst he
      exact ⟨[], 0, heap_alloc_new w _, rfl, fun j h => by simp at h⟩
    · have k := hF.inv.maps p es he
      exact k.keep (.refl g) (alloc_heap_lt k.lt)
  · by_cases e : b = w.heap.size
    · exact .inr (Nat.le_of_eq e.symm)
    · refine .inl ?_
      unfold AO.mut AO.setMap at hb
      simpa [e, AO.mut] using hb
end
end Ab
end Go.Proofs.YtpmigkbcldffeaaGreatDoor

/- Appending, against the model. -/
namespace Go.Proofs.YtpmigkbcldffeaaGreatDoor
namespace Ab
section
variable {P : Program} {Ty : TypeId → Option TyI}

/-- All the cells of a slice's elements, one behind the other. -/
theorem rows_flat {g : Gh} {sz : Nat} : ∀ {rows : List (List AV)} {b o : Nat}, g.rows b o sz rows → ∃ L, CL g rows.flatten L ∧ L.length = rows.length * sz ∧ g.lies b o L
  | [], b, o, _ => ⟨[], ⟨VL.nil g, fun _ h => by cases h⟩, by simp, fun j V h => by simp at h⟩
  | r :: rs, b, o, h => by
    obtain ⟨L0, h1, h2, h3⟩ := h 0 (by simp)
    have hrs : g.rows b (o + sz) sz rs := fun i hi => by
      obtain ⟨L, k1, k2, k3⟩ := h (i + 1) (by simpa using hi)
      refine ⟨L, by simpa using k1, k2, ?_⟩
      have e : o + sz + i * sz = o + (i + 1) * sz := by rw [Nat.succ_mul]; omega
      rw [e]; exact k3
    obtain ⟨L1, m1, m2, m3⟩ := rows_flat hrs
    refine ⟨L0 ++ L1, by simpa using CL.append (by simpa using h1) m1, by simp [h2, m2, Nat.succ_mul]; omega, fun j V hV => ?_⟩
    rw [List.getElem?_append] at hV
    split at hV
    · have := h3 j V hV; simpa using this
    · have := m3 _ V hV
      rename_i hj
      rw [h2] at this
      have e : o + sz + (j - sz) = o + j := by omega
      rwa [e] at this
theorem flat_rows {g : Gh} {sz : Nat} : ∀ {rows : List (List AV)} {b o : Nat} {L : List Value}, (∀ r ∈ rows, r.length = sz) → CL g rows.flatten L → g.lies b o L → g.rows b o sz rows
  | [], b, o, L, _, _, _ => fun i hi => by simp at hi
  | r :: rs, b, o, L, hr, hL, hl => fun i hi => by
    have hrl := hr r (by simp)
    have hL' : CL g (r ++ rs.flatten) L := by simpa using hL
    cases i with
    | zero =>
      refine ⟨L.take sz, ?_, ?_, fun j V hV => ?_⟩
      · have := hL'.take sz
        rw [← hrl, List.take_left] at this
        rw [← hrl]; exact this
      · have := hL'.len; simp at this; simp [this, hrl]
      · rw [List.getElem?_take] at hV
        split at hV
        · simpa using hl _ _ hV
        · cases hV
    | succ i =>
      have hd := hL'.drop sz
      rw [← hrl, List.drop_left] at hd
      obtain ⟨M, k1, k2, k3⟩ := flat_rows (b := b) (o := o + sz) (fun r' h' => hr r' (List.mem_cons_of_mem _ h')) hd (fun j V hV => by
        rw [List.getElem?_drop, hrl] at hV
        rw [Nat.add_assoc]; exact hl _ _ hV) i (by simpa using hi)
      refine ⟨M, by simpa using k1, k2, ?_⟩
      have e : o + sz + i * sz = o + (i + 1) * sz := by rw [Nat.succ_mul]; omega
      rwa [e] at k3
theorem rows_len {g : Gh} {b o sz : Nat} {rows : List (List AV)} (h : g.rows b o sz rows) : ∀ r ∈ rows, r.length = sz := fun r hr => by
  obtain ⟨i, hi, rfl⟩ := List.mem_iff_getElem.1 hr
  obtain ⟨L, h1, h2, _⟩ := h i hi
  rw [← h1.len, h2]

theorem bytes_flat : ∀ s : List UInt8, (bytesAV s).flatten = s.map fun c => AV.int .u8 c.toNat
  | [] => rfl
  | c :: s => by
    have := bytes_flat s
    unfold bytesAV at this ⊢
    simp [this]

/-- What is appended, read. -/
theorem src_ok {A : AO} {a : AV} {new : List (List AV)} (h : srcRows a = some new) {sz : Nat} (hsz : ∀ r ∈ new, r.length = sz) {g : Gh} {w : World} {X : Value} (hi : Inv A g w) (hX : VR g a X) :
    (Builtin.lenOf X).run P w = .ok new.length w ∧ ∃ L, CL g new.flatten L ∧ L.length = new.length * sz ∧ ∀ w', (∀ b o v, g.S b o = some v → w'.cell? ⟨b, o, none⟩ = some v) → (Builtin.firstCells sz new.length X).run P w' = .ok L.toArray w' := by
  have slc : ∀ {sz0 n : Nat} {rows : List (List AV)}, rows = new → VR g (.sl sz0 n rows) X → (Builtin.lenOf X).run P w = .ok new.length w ∧ ∃ L, CL g new.flatten L ∧ L.length = new.length * sz ∧ ∀ w', (∀ b o v, g.S b o = some v → w'.cell? ⟨b, o, none⟩ = some v) → (Builtin.firstCells sz new.length X).run P w' = .ok L.toArray w' := fun {sz0 n rows} hrn hV => by
    subst hrn
    obtain ⟨A', c, rfl, hn, hc, hr⟩ := hV.inv_sl
    refine ⟨by simp [Builtin.lenOf, hn], ?_⟩
    by_cases h0 : 0 < n
    · obtain ⟨b, o, rfl, hq⟩ := hr h0
      have hs : sz0 = sz := by
        have hlt : 0 < rows.length := by omega
        rw [← hsz rows[0] (List.getElem_mem hlt), rows_len hq _ (List.getElem_mem hlt)]
      subst hs
      obtain ⟨L, k1, k2, k3⟩ := rows_flat hq
      refine ⟨L, k1, k2, fun w' hw => ?_⟩
      have := run_loadCells_at (P := P) w' b o L (fun j V hV => hw _ _ _ (k3 j V hV))
      rw [k2] at this
      simpa [Builtin.firstCells] using this
    · have : rows = [] := List.eq_nil_of_length_eq_zero (by omega)
      subst this
      refine ⟨[], ⟨VL.nil g, fun _ h => by cases h⟩, by simp, fun w' hw => ?_⟩
      cases A' <;> simp [Builtin.firstCells, loadCells, loadCellsFrom]
  unfold srcRows at h
  split at h
  · injection h with h
    exact slc h hX
  · injection h with h
    exact slc h (Sub.os_sl rfl _ _ hX)
  · rename_i s
    injection h with h
    subst h
    cases hX with
    | str _ b hs =>
      have hlen : b.size = (bytesAV s).length := by rw [← hs]; show b.data.size = _; simp [bytesAV]
      refine ⟨by simp [Builtin.lenOf, hlen], ?_⟩
      have hfl := bytes_flat s
      refine ⟨s.map fun c => .int .u8 c.toNat, ?_, ?_, fun w' _ => ?_⟩
      · rw [hfl]
        refine ⟨⟨by simp, fun j h1 h2 => by simpa using VR.int _ _⟩, fun v hv => ?_⟩
        obtain ⟨c, _, rfl⟩ := List.mem_map.1 hv
        rfl
      · cases s with
        | nil => simp [bytesAV]
        | cons c s =>
          have := hsz [.int .u8 c.toNat] (by simp [bytesAV])
          have h1 : sz = 1 := by simpa using this.symm
          subst h1
          simp [bytesAV]
      · have e : b.extract 0 (bytesAV s).length = b := by rw [← hlen]; exact ByteArray.extract_zero_size
        simp only [Builtin.firstCells, e, Sem.run_pure]
        congr 1
        apply Array.ext'
        simp [← hs]
  · cases h

theorem growBy_le (n : Nat) : ∀ (r c : Nat), 256 ≤ c → c ≤ 2 * n → Builtin.growBy n r c ≤ 2 * n
  | 0, c, _, h => h
  | r + 1, c, h1, h2 => by
    unfold Builtin.growBy
    split
    · exact h2
    · exact growBy_le n r _ (by omega) (by omega)
theorem next_le {need cap : Nat} (h : cap < need) : Builtin.nextslicecap need cap ≤ 2 * need := by
  unfold Builtin.nextslicecap
  split
  · omega
  · split
    · omega
    · exact growBy_le need 4 cap (by omega) (by omega)


/-- New cells that do not change, in a row that is appended to. -/
def Gh.more (g : Gh) (b o : Nat) (L : List Value) : Gh := { g with S := fun q k => if q = b ∧ o ≤ k ∧ k < o + L.length then L[k - o]? else g.S q k }
def Gh.room (g : Gh) (b C : Nat) (L : List Value) : Gh := { S := fun q k => if q = b then L[k]? else g.S q k, cp := fun q => if q = b then some C else g.cp q }

theorem AO.kill_mut {A : AO} {ob : Option Nat} {b : Nat} (h : (A.kill ob).mut b) : A.mut b := by
  cases ob with
  | none => exact h
  | some p =>
    rcases h with h | h | h
    · exact .inl h
    · refine .inr (.inl ?_)
      simp only [AO.kill] at h
      split at h
      · exact absurd rfl h
      · exact h
    · exact .inr (.inr h)
theorem AO.kill_toks {A : AO} {ob : Option Nat} {b : Nat} {x : Nat × Nat} (h : (A.kill ob).toks b = some x) : A.toks b = some x ∧ ob ≠ some b := by
  cases ob with
  | none => exact ⟨h, by simp⟩
  | some p =>
    simp only [AO.kill] at h
    split at h
    · cases h
    · rename_i hp; exact ⟨h, fun e => by injection e with e; exact hp e.symm⟩
@[simp] theorem AO.kill_rows (A : AO) (ob : Option Nat) : (A.kill ob).rows = A.rows := by cases ob <;> rfl
@[simp] theorem AO.kill_maps (A : AO) (ob : Option Nat) : (A.kill ob).maps = A.maps := by cases ob <;> rfl
@[simp] theorem AO.tok_rows (A : AO) (ob : Option Nat) (sz e : Nat) : (A.tok ob sz e).rows = A.rows := by cases ob <;> rfl
@[simp] theorem AO.tok_maps (A : AO) (ob : Option Nat) (sz e : Nat) : (A.tok ob sz e).maps = A.maps := by cases ob <;> rfl

variable {C : Cx} {T : Nat → Option TV} {O : Nat → Option (List AV)} {A : AO}

/-- Appending where there is room. -/
theorem append_in {g : Gh} {w : World} (hI : Inv A g w) {b sz e C : Nat} {new : List (List AV)} {L : List Value} (ht : A.toks b = some (sz, e)) (hcp : g.cp b = some C) (hL : CL g new.flatten L) (hlen : L.length = new.length * sz) (hroom : e + new.length ≤ C) :
    ∃ w', (storeCells ⟨b, e * sz, none⟩ L).run P w = .ok () w' ∧ Inv ((A.kill (some b)).tok (some b) sz (e + new.length)) (g.more b (e * sz) L) w' ∧ St A g w ((A.kill (some b)).tok (some b) sz (e + new.length)) (g.more b (e * sz) L) w' := by
  obtain ⟨arr, Te, lo, hi, C', h1, h2, h3, h4, h5, h6⟩ := hI.toks b sz e ht
  have hC : C' = C := by rw [hcp] at h3; injection h3 with h3; exact h3.symm
  subst hC
  have hmb : A.mut b := .inr (.inl (by rw [ht]; simp))
  have hfit : e * sz + L.length ≤ arr.size := by
    rw [hlen, h2, ← Nat.add_mul]
    exact Nat.mul_le_mul_right _ hroom
  have hrun := run_storeCells_atF P b (e * sz) Te (lo, hi) L 0 arr w h1 (by simpa using h5) (by simpa using hfit) hL.one
  simp only [Nat.add_zero] at hrun
  refine ⟨_, hrun, ?_, ?_⟩
  · have hle : g.le (g.more b (e * sz) L) := ⟨fun q k v hv => by
        unfold Gh.more
        simp only
        rw [if_neg (fun hc => by
          have := h6 k hc.2.1
          rw [← hc.1] at this; rw [this] at hv; cases hv)]
        exact hv, fun _ _ h => h⟩
    have hcell : ∀ k, (w.setRow b (arr.toList.take (e * sz) ++ L ++ arr.toList.drop (e * sz + L.length)).toArray).cell? ⟨b, k, none⟩ = (arr.toList.take (e * sz) ++ L ++ arr.toList.drop (e * sz + L.length))[k]? := fun k => by
      rw [cell_setRow_same w b k arr _ Te (lo, hi) h1]; simp
    refine ⟨fun q k v hv => ?_, fun p cs he => ?_, fun p sz' e' he => ?_, fun p es he => ?_, fun p hp => ?_, fun q n hq => by simpa using hI.cps q n hq, fun p t ht => (hI.tys p t ht).setRow⟩
    · unfold Gh.more at hv
      simp only at hv
      split at hv
      · rename_i hc
        obtain ⟨rfl, hc1, hc2⟩ := hc
        rw [hcell, List.getElem?_append_left (by simp; omega), List.getElem?_append_right (by simp; omega)]
        have : min (e * sz) arr.size = e * sz := by omega
        simpa [this] using hv
      · rename_i hc
        by_cases hq : q = b
        · subst hq
          have hk : k < e * sz := Classical.byContradiction fun hn => by
            have := h6 k (Nat.not_lt.1 hn)
            rw [this] at hv; cases hv
          rw [hcell, List.getElem?_append_left (by simp; omega), List.getElem?_append_left (by simp; omega)]
          have := hI.sealed _ _ _ hv
          rw [cell_of_row _ _ _ _ _ _ h1] at this
          simpa [List.getElem?_take, hk] using this
        · rw [cell_setRow_other w b _ ⟨q, k, none⟩ hq]; exact hI.sealed _ _ _ hv
    · simp only [AO.tok_rows, AO.kill_rows] at he
      have hne : p ≠ b := fun e' => by subst e'; have := hI.apart p (by rw [he]; simp); rw [ht] at this; cases this
      obtain ⟨k1, k2⟩ := hI.rows p cs he
      exact ⟨k1.keep hle (setRow_other w _ _ _ hne), fun o => by simp [Gh.more, hne, k2 o]⟩
    · by_cases hp : p = b
      · subst hp
        have : sz' = sz ∧ e' = e + new.length := by simp [AO.tok] at he; exact ⟨he.1.symm, he.2.symm⟩
        obtain ⟨rfl, rfl⟩ := this
        refine ⟨_, Te, lo, hi, C', setRow_heap w _ _ _ _ _ h1, ?_, h3, hroom, ?_, fun o ho => ?_⟩
        · simp
          have : min (e * sz') arr.size = e * sz' := by omega
          rw [this]
          omega
        · rw [Nat.add_mul]; omega
        · unfold Gh.more
          simp only
          rw [if_neg (by rw [Nat.add_mul] at ho; omega)]
          exact h6 o (by rw [Nat.add_mul] at ho; omega)
      · have he' : A.toks p = some (sz', e') := by
          simp only [AO.tok, hp, if_false] at he
          exact (AO.kill_toks he).1
        exact (hI.toks p sz' e' he').keep hle (setRow_other w _ _ _ hp) (fun o ho => by simp [Gh.more, hp, ho])
    · simp only [AO.tok_maps, AO.kill_maps] at he
      have k := hI.maps p es he
      have hne : p ≠ b := fun e' => by subst e'; obtain ⟨_, _, k1, _⟩ := k; rw [h1] at k1; cases k1
      exact k.keep hle (setRow_other w _ _ _ hne)
    · simp only [AO.tok_rows, AO.kill_rows] at hp
      have := hI.apart p hp
      have hne : p ≠ b := fun e' => by subst e'; rw [ht] at this; cases this
      simp only [AO.tok, hne, if_false, AO.kill, this]
  · have hle : g.le (g.more b (e * sz) L) := ⟨fun q k v hv => by
        unfold Gh.more
        simp only
        rw [if_neg (fun hc => by
          have := h6 k hc.2.1
          rw [← hc.1] at this; rw [this] at hv; cases hv)]
        exact hv, fun _ _ h => h⟩
    refine ⟨hle, rfl, rfl, rfl, by simp, fun q hq hn => setRow_other w _ _ _ (fun e' => hn (e' ▸ hmb)), fun q hq => .inl ?_, fun q o hq hn => ?_⟩
    · by_cases e' : q = b
      · subst e'; exact hmb
      · refine AO.kill_mut (ob := some b) ?_
        unfold AO.mut at hq ⊢
        simpa [AO.tok, e'] using hq
    · have : q ≠ b := fun e' => hn (e' ▸ hmb)
      simp [Gh.more, this]

/-- Appending where there is none: a new row. -/
theorem append_new {g : Gh} {w : World} (hI : Inv A g w) {ob : Option Nat} {sz e C : Nat} (he : e ≤ C) {L Z : List Value} (hlen : L.length = e * sz) (hz : Z.length + L.length = C * sz) (Te : TypeId) :
    Inv (((A.kill ob).tok (some w.heap.size) sz e).setTy w.heap.size Te) (g.room w.heap.size C L) (w.alloc (.cells (L ++ Z).toArray Te)) ∧ St A g w (((A.kill ob).tok (some w.heap.size) sz e).setTy w.heap.size Te) (g.room w.heap.size C L) (w.alloc (.cells (L ++ Z).toArray Te)) ∧
      (g.room w.heap.size C L).lies w.heap.size 0 L ∧ ¬ A.mut w.heap.size := by
  have hnm : ¬ A.mut w.heap.size := fun h => absurd (hI.mut_lt h) (Nat.lt_irrefl _)
  have hne : ∀ q, A.mut q → q ≠ w.heap.size := fun q hq => Nat.ne_of_lt (hI.mut_lt hq)
  have hle : g.le (g.room w.heap.size C L) := ⟨fun q k v hv => by
      have : q ≠ w.heap.size := Nat.ne_of_lt (hI.seal_lt hv)
      simp [Gh.room, this, hv], fun q n hq => by
      have : q ≠ w.heap.size := Nat.ne_of_lt (hI.cps q n hq)
      simp [Gh.room, this, hq]⟩
  refine ⟨⟨fun q k v hv => ?_, fun p cs (hp : ((A.kill ob).tok (some w.heap.size) sz e).rows p = some cs) => ?_, fun p sz' e' (hp : ((A.kill ob).tok (some w.heap.size) sz e).toks p = some (sz', e')) => ?_, fun p es (hp : ((A.kill ob).tok (some w.heap.size) sz e).maps p = some es) => ?_, fun p (hp : ((A.kill ob).tok (some w.heap.size) sz e).rows p ≠ none) => show ((A.kill ob).tok (some w.heap.size) sz e).toks p = none from ?_, fun q n hq => ?_, fun p t ht => ?_⟩, ⟨hle, rfl, rfl, rfl, by simp, fun b hb _ => alloc_heap_lt hb, fun b hb => ?_, fun b o hb _ => by simp [Gh.room, Nat.ne_of_lt hb]⟩, fun j V hV => by simp [Gh.room, hV], hnm⟩
  · unfold Gh.room at hv
    simp only at hv
    split at hv
    · rename_i hq
      subst hq
      rw [cell_of_row _ _ _ _ _ _ (heap_alloc_new w _)]
      have hlt := (List.getElem?_eq_some_iff.1 hv).1
      simp [List.getElem?_append_left hlt, hv]
    · rw [World.cell?_alloc_lt w _ ⟨q, k, none⟩ (hI.seal_lt hv)]; exact hI.sealed _ _ _ hv
  · simp only [AO.tok_rows, AO.kill_rows] at hp
    obtain ⟨k1, k2⟩ := hI.rows p cs hp
    exact ⟨k1.keep hle (alloc_heap_lt k1.lt), fun o => by simp [Gh.room, Nat.ne_of_lt k1.lt, k2 o]⟩
  · by_cases hq : p = w.heap.size
    · subst hq
      have : sz' = sz ∧ e' = e := by simp [AO.tok] at hp; exact ⟨hp.1.symm, hp.2.symm⟩
      obtain ⟨rfl, rfl⟩ := this
      refine ⟨_, Te, 0, 0, C, heap_alloc_new w _, ?_, by simp [Gh.room], he, Nat.zero_le _, fun o ho => ?_⟩
      · simp; omega
      · simp only [Gh.room, if_true]
        exact List.getElem?_eq_none (by omega)
    · have hp' : A.toks p = some (sz', e') := by
        simp only [AO.tok, hq, if_false] at hp
        exact (AO.kill_toks hp).1
      have k := hI.toks p sz' e' hp'
      exact k.keep hle (alloc_heap_lt k.lt) (fun o ho => by simp [Gh.room, hq, ho])
  · simp only [AO.tok_maps, AO.kill_maps] at hp
    have k := hI.maps p es hp
    exact k.keep hle (alloc_heap_lt k.lt)
  · simp only [AO.tok_rows, AO.kill_rows] at hp
    have h1 := hI.apart p hp
    have h2 : p ≠ w.heap.size := hne p (.inl hp)
    simp only [AO.tok, h2, if_false]
    cases hq : (A.kill ob).toks p with
    | none => rfl
    | some x => rw [(AO.kill_toks hq).1] at h1; cases h1
  · unfold Gh.room at hq
    simp only at hq
    split at hq
    · rename_i e'; subst e'; simp
    · have := hI.cps q n hq; simp; omega
  · have ht2 : (if p = w.heap.size then some Te else (A.kill ob).tys p) = some t := ht
    by_cases e2 : p = w.heap.size
    · rw [if_pos e2] at ht2
      injection ht2 with ht2
      subst e2; subst ht2
      exact ⟨_, _, heap_alloc_new w _⟩
    · rw [if_neg e2] at ht2
      exact (hI.tys p t (by cases ob <;> exact ht2)).alloc
  · by_cases e' : b = w.heap.size
    · exact .inr (Nat.le_of_eq e'.symm)
    · refine .inl (AO.kill_mut (ob := ob) ?_)
      unfold AO.mut at hb ⊢
      simpa [AO.tok, AO.setTy, e'] using hb

theorem rows_mono {g g' : Gh} (h : g.le g') {b o sz : Nat} {rows : List (List AV)} (k : g.rows b o sz rows) : g'.rows b o sz rows := fun i hi => by
  obtain ⟨L, h1, h2, h3⟩ := k i hi
  exact ⟨L, h1.mono h, h2, fun j V hV => h.s _ _ _ (h3 j V hV)⟩
theorem rows_append {g : Gh} {b o sz : Nat} {rows new : List (List AV)} (h : g.rows b o sz rows) (k : g.rows b (o + rows.length * sz) sz new) : g.rows b o sz (rows ++ new) := fun i hi => by
  by_cases hlt : i < rows.length
  · obtain ⟨L, h1, h2, h3⟩ := h i hlt
    exact ⟨L, by rw [List.getElem_append_left hlt]; exact h1, h2, h3⟩
  · obtain ⟨L, h1, h2, h3⟩ := k (i - rows.length) (by simp at hi; omega)
    refine ⟨L, by rw [List.getElem_append_right (Nat.not_lt.1 hlt)]; exact h1, h2, ?_⟩
    have e : o + rows.length * sz + (i - rows.length) * sz = o + i * sz := by rw [Nat.add_assoc, ← Nat.add_mul]; congr 2; omega
    rwa [e] at h3

/-- An append. -/
theorem FR.append (ty : TyOk P Ty) {ob : Nat → Nat} {a : Act} {w : World} {g : Gh} (hF : FR C T O A g ob a w) {o : Oper} {c : Call} (ho : o.op = .call c) (hc : c.callee = .builtin .append)
    {s x : Operand} (hargs : c.args.toList = [s, x]) {st xt e' : TypeId} (hat : c.argTypes.toList = [st, xt]) {i j k : TyI} (hi : Ty st = some i) (hd : i.d = .slice e') (hj : Ty e' = some j) (hk : Ty xt = some k)
    (hkd : ∀ q, k.d ≠ .int q) {sz e : Nat} {obk : Option Nat} {rows new : List (List AV)} {va : AV} (hs : Ab.ev T s = some (.v (.os sz obk e rows))) (hx : Ab.ev T x = some (.v va)) (hsrc : srcRows va = some new)
    (hzl : j.zv.cells.length = j.size) (hzo : j.zv.okv = true) {K : Option Nat → AO → Prop} (h : AK A sz j.size j.bytes e' obk e rows new K) (hdst : ∀ t, o.dst = some t → t < C.N) (Q : Exit → Act → World → Prop) :
    o.wp P a w (fun a' w' => ∃ ob' A' g', K ob' A' ∧ FR C (updT T o.dst (.v (.os j.size ob' (e + new.length) (rows ++ new)))) O A' g' ob a' w') Q := by
  obtain ⟨h1, h0, h2, h3, h4, h5⟩ := h.out
  have hV := hF.ev (fun _ _ h => h) hs
  have hX := hF.ev (fun _ _ h => h) hx
  obtain ⟨hlen, NL, hNL, hNLl, hNLr⟩ := src_ok (P := P) hsrc h3 hF.inv hX
  have hS := hF.inv.sealed
  have ea : c.args.map a.eval = #[a.eval s, a.eval x] := by apply Array.ext'; simp [hargs]
  have et0 : c.argTypes[0]? = some st := by rw [← Array.getElem?_toList, hat]; rfl
  have et1 : c.argTypes[1]? = some xt := by rw [← Array.getElem?_toList, hat]; rfl
  have hx0 : (match k.d with | .int _ => true | _ => false) = false := by cases hq : k.d <;> first | rfl | exact absurd hq (hkd _)
  have hrun0 : execOp a.eval o = (do pure (.value (← Builtin.append_ c.argTypes o.type #[a.eval s, a.eval x]))) := by
    unfold execOp
    rw [ho]
    simp only [resolve, hc, pure_bind, invoke, builtin, ea]
  obtain ⟨inf, f1, f2, f3, _⟩ := ty.i e' j hj
  have hti : ∀ w', (typeInfo e').run P w' = .ok inf w' := fun w' => by simp [typeInfo, f1]
  -- the old elements
  have hold : ∃ A0 cap OL, a.eval s = .slice A0 rows.length cap ∧ rows.length ≤ cap ∧ CL g rows.flatten OL ∧ OL.length = e * j.size ∧ (∀ w', (∀ b o v, g.S b o = some v → w'.cell? ⟨b, o, none⟩ = some v) → (Builtin.firstCells j.size rows.length (.slice A0 rows.length cap)).run P w' = .ok OL.toArray w') ∧
      (∀ r ∈ rows, r.length = j.size) ∧
      ((obk = none ∧ cap = e) ∨ (∃ b, obk = some b ∧ A0 = some ⟨b, 0, none⟩ ∧ g.cp b = some cap ∧ g.rows b 0 j.size rows)) := by
    rcases VR.inv_os hV with ⟨rfl, hl, A0, hval, hr⟩ | ⟨b, cc, CC, rfl, hval, hcp, hcc, hle, heC, hr⟩
    · by_cases hz : 0 < e
      · obtain ⟨b, o', rfl, hq⟩ := hr hz
        have hszj : sz = j.size := h0.resolve_left (fun e0 => by rw [e0] at hl; simp at hl; omega)
        subst hszj
        obtain ⟨OL, k1, k2, k3⟩ := rows_flat hq
        refine ⟨_, e, OL, by rw [hval, hl], by omega, k1, by rw [k2, hl], ?_, rows_len hq, .inl ⟨rfl, rfl⟩⟩
        intro w' hw
        have := run_loadCells_at (P := P) w' b o' OL (fun j V hV => hw _ _ _ (k3 j V hV))
        rw [k2] at this
        simpa [Builtin.firstCells] using this
      · have he0 : e = 0 := by omega
        subst he0
        have hr0 : rows = [] := List.eq_nil_of_length_eq_zero hl
        subst hr0
        refine ⟨A0, 0, [], hval, Nat.le_refl _, ⟨VL.nil g, fun _ h => by cases h⟩, by simp, ?_, fun r hr => by simp at hr, .inl ⟨rfl, rfl⟩⟩
        intro w' _
        cases A0 <;> simp [Builtin.firstCells, loadCells, loadCellsFrom]
    · have e0 : e - rows.length = 0 := by omega
      rw [e0, Nat.zero_mul] at hval hr
      have ecap : cc = CC := by omega
      subst ecap
      by_cases hz : rows = []
      · subst hz
        refine ⟨_, cc, [], hval, by omega, ⟨VL.nil g, fun _ h => by cases h⟩, by simp at h1; subst h1; simp, ?_, fun r hr => by simp at hr, .inr ⟨b, rfl, rfl, hcp, fun i hi => by simp at hi⟩⟩
        intro w' _
        simp [Builtin.firstCells, loadCells, loadCellsFrom]
      · have hszj : sz = j.size := h0.resolve_left hz
        subst hszj
        obtain ⟨OL, k1, k2, k3⟩ := rows_flat hr
        refine ⟨_, cc, OL, hval, by omega, k1, by rw [k2, h1], ?_, rows_len hr, .inr ⟨b, rfl, rfl, hcp, hr⟩⟩
        intro w' hw
        have := run_loadCells_at (P := P) w' b 0 OL (fun j V hV => hw _ _ _ (k3 j V hV))
        rw [k2] at this
        simpa [Builtin.firstCells] using this
  obtain ⟨A0, cap, OL, hval, hcap, hOL, hOLl, hOLr, hrl, hcase⟩ := hold
  unfold Oper.wp
  rw [hrun0, hval]
  by_cases hroom : rows.length + new.length ≤ cap
  · have hrun : ∀ w' , (match A0 with | some a0 => storeCells (a0.add (rows.length * j.size)) NL | none => pure ()).run P w = .ok () w' →
        (Builtin.append_ c.argTypes o.type #[.slice A0 rows.length cap, a.eval x]).run P w = .ok (.slice A0 (rows.length + new.length) cap) w' := fun w' hst => by
      simp [Builtin.append_, et0, et1, ty.under hi w, hd, ty.size hj w, ty.under hk w, hx0, hlen, hroom, hNLr w hS]
      cases A0 with
      | none => simp at hst; simp [hst]
      | some a0 => simp only at hst; simp [hst]
    rcases hcase with ⟨rfl, rfl⟩ | ⟨b, rfl, rfl, hcp, hr⟩
    · have hn0 : new = [] := List.eq_nil_of_length_eq_zero (by omega)
      subst hn0
      have hNL0 : NL = [] := List.eq_nil_of_length_eq_zero (by simpa using hNLl)
      subst hNL0
      have := hrun w (by cases A0 <;> rfl)
      rw [run_v this]
      have hK := h5 none _ (.inl ⟨rfl, rfl⟩) (fun _ hne => absurd rfl hne)
      refine ⟨none, A, g, hK, hF.put o.dst hdst ?_⟩
      simp only [List.length_nil, Nat.add_zero, List.append_nil]
      rcases h0 with h0 | h0
      · subst h0
        simp at h1
        subst h1
        exact .os0 _ _
      · subst h0
        rw [hval] at hV
        exact hV
    · have hfit : e + new.length ≤ cap := by omega
      have ht := h2 b rfl
      obtain ⟨w', k1, k2, k3⟩ := append_in (P := P) hF.inv ht hcp hNL hNLl hfit
      have := hrun w' (by simp only [addr_add, Nat.zero_add, h1]; exact k1)
      rw [run_v this]
      have hK := h5 (some b) _ (.inl ⟨rfl, rfl⟩) (fun h => by cases h)
      refine ⟨some b, _, _, hK, (hF.step k2 k3).put o.dst hdst ?_⟩
      have hrows : (g.more b (e * j.size) NL).rows b 0 j.size (rows ++ new) := by
        have r1 : (g.more b (e * j.size) NL).rows b (0 + rows.length * j.size) j.size new := by
          rw [h1, Nat.zero_add]
          exact flat_rows h3 (hNL.mono k3.le) (fun m V hV => by
            have hm := (List.getElem?_eq_some_iff.1 hV).1
            have h0 : (g.more b (e * j.size) NL).S b (e * j.size + m) = NL[e * j.size + m - e * j.size]? := by
              simp only [Gh.more]
              rw [if_pos ⟨trivial, by omega, by omega⟩]
            rw [h0, show e * j.size + m - e * j.size = m by omega]
            exact hV)
        exact rows_append (rows_mono k3.le hr) r1
      have e1 : e + new.length - (rows ++ new).length = 0 := by simp; omega
      have := VR.mk_os (g := g.more b (e * j.size) NL) (b := b) (e := e + new.length) (sz := j.size) (c := cap) (C := cap) (rows := rows ++ new) hcp (by rw [e1]; rfl) (by simp; omega) hfit (by rw [e1, Nat.zero_mul]; exact hrows)
      rw [e1, Nat.zero_mul] at this
      simp only [List.length_append] at this
      exact this
  · have hnb : Builtin.nextslicecap (rows.length + new.length) cap * inf.bytes ≤ 281474976710656 := by
      rcases h4 with h4 | ⟨h4, _⟩
      rotate_left
      · have n1 := nextslicecap_le_wide (need := rows.length + new.length) (old := cap) (by omega)
        rw [f3]
        rw [← h1] at h4
        exact Nat.le_trans (Nat.mul_le_mul_right _ n1) h4
      have n1 := next_le (need := rows.length + new.length) (cap := cap) (by omega)
      have n2 : Builtin.nextslicecap (rows.length + new.length) cap * inf.bytes ≤ (2 * (rows.length + new.length)) * (j.bytes + 1) := by
        rw [f3]; exact Nat.mul_le_mul n1 (Nat.le_succ _)
      have n3 : (2 * (rows.length + new.length)) * (j.bytes + 1) = 2 * ((e + new.length) * (j.bytes + 1)) := by rw [h1, Nat.mul_assoc]
      omega
    have hsm : rows.length + new.length ≤ 4611686018427387904 := by
      rcases h4 with h4 | ⟨_, h4⟩
      rotate_left
      · omega
      have : (e + new.length) * 1 ≤ (e + new.length) * (j.bytes + 1) := Nat.mul_le_mul_left _ (by omega)
      omega
    obtain ⟨z, hz1, hz2⟩ := ty.zero hj
    have hzs : z.cells.size = j.size := by have := ((hz1 g).flat hzo).len; simp at this; rw [this, hzl]
    have hrun : ∃ nc, rows.length + new.length ≤ nc ∧ (Builtin.append_ c.argTypes o.type #[.slice A0 rows.length cap, a.eval x]).run P w =
        .ok (.slice (some ⟨w.heap.size, 0, none⟩) (rows.length + new.length) nc) (w.drew.alloc (.cells (OL.toArray ++ NL.toArray ++ Builtin.zeroCells z.cells (nc - (rows.length + new.length))) e')) := by
      have hA : ¬ ((9223372036854775807 : Int) < (rows.length : Int) + (new.length : Int)) := by omega
      have hB : ¬ (281474976710656 < Builtin.nextslicecap (rows.length + new.length) cap * inf.bytes) := by omega
      have hf : (Question.appendCap (rows.length + new.length) cap e').forced = false := rfl
      have hSd : ∀ b o v, g.S b o = some v → w.drew.cell? ⟨b, o, none⟩ = some v := fun b o v hv => hS b o v hv
      refine ⟨(Question.appendCap (rows.length + new.length) cap e').cut (w.tape w.drawn (Question.appendCap (rows.length + new.length) cap e')), Nat.le_add_right _ _, ?_⟩
      simp [Builtin.append_, et0, et1, ty.under hi w, hd, ty.size hj w, ty.under hk w, hx0, hlen, hroom, hti, hA, hB, hf, hOLr _ hSd, hNLr _ hSd, hz2, newRow]
      congr 2
      apply Array.ext'
      simp
    obtain ⟨nc, hnc, hrun⟩ := hrun
    rw [run_v hrun]
    have hId : Inv A g w.drew := ⟨hF.inv.sealed, fun p cs hp => hF.inv.rows p cs hp, fun p s' e'' hp => hF.inv.toks p s' e'' hp, fun p es hp => hF.inv.maps p es hp, hF.inv.apart, hF.inv.cps, fun p t hp => hF.inv.tys p t hp⟩
    have hSt : St A g w A g w.drew := ⟨.refl g, rfl, rfl, rfl, Nat.le_refl _, fun _ _ _ => rfl, fun _ h => .inl h, fun _ _ _ _ => rfl⟩
    have hll : (OL ++ NL).length = (e + new.length) * j.size := by rw [List.length_append, hOLl, hNLl, Nat.add_mul]
    have hzz : (Builtin.zeroCells z.cells (nc - (rows.length + new.length))).size = (nc - (rows.length + new.length)) * j.size := by simp [Builtin.zeroCells, hzs]
    have hfitn : e + new.length ≤ nc := by omega
    have hzl' : (Builtin.zeroCells z.cells (nc - (rows.length + new.length))).toList.length + (OL ++ NL).length = nc * j.size := by
      rw [hll, Array.length_toList, hzz, ← Nat.add_mul]
      congr 1
      omega
    obtain ⟨k1, k2, k3, k4⟩ := append_new hId (ob := obk) (sz := j.size) hfitn hll hzl' e'
    have hK := h5 (some w.heap.size) _ (.inr ⟨_, rfl, k4, rfl⟩) (fun _ _ h => by cases h)
    have earr : OL.toArray ++ NL.toArray ++ Builtin.zeroCells z.cells (nc - (rows.length + new.length)) = (OL ++ NL ++ (Builtin.zeroCells z.cells (nc - (rows.length + new.length))).toList).toArray := by
      apply Array.ext'; simp
    rw [earr]
    refine ⟨some w.heap.size, _, _, hK, ((hF.step hId hSt).step k1 k2).put o.dst hdst ?_⟩
    have hrows := flat_rows (rows := rows ++ new) (fun r hr => by
      rcases List.mem_append.1 hr with hr | hr
      · exact hrl r hr
      · exact h3 r hr) (by rw [List.flatten_append]; exact (hOL.append hNL).mono k2.le) k3
    have e1 : e + new.length - (rows ++ new).length = 0 := by simp; omega
    have := VR.mk_os (g := g.room w.heap.size nc (OL ++ NL)) (b := w.heap.size) (e := e + new.length) (sz := j.size) (c := nc) (C := nc) (rows := rows ++ new) (by simp [Gh.room]) (by rw [e1]; rfl) (by simp; omega) hfitn (by rw [e1, Nat.zero_mul]; exact hrows)
    rw [e1, Nat.zero_mul] at this
    simp only [List.length_append] at this
    exact this
end
end Ab
end Go.Proofs.YtpmigkbcldffeaaGreatDoor

/- Code and functions of the abstract machine, against the model. -/
namespace Go.Proofs.YtpmigkbcldffeaaGreatDoor
namespace Ab
section
variable {P : Program} {Ty : TypeId → Option TyI} {C : Cx}

theorem nop_of (h : ∀ {T : Nat → Option TV} {O : Nat → Option (List AV)} {A : AO}, True) : True := trivial

theorem nop_ok (ty : TyOk P Ty) {T : Nat → Option TV} {O : Nat → Option (List AV)} {A : AO} {sh : List Nat} {nx : Nat} {o : Oper} {K : TV → Eff → Prop} (hnx : O nx = none) (h : nop P Ty sh nx T O A o K) (hd : ∀ t, o.dst = some t → t < C.N)
    {g : Gh} {ob : Nat → Nat} {a : Act} {w : World} (hF : FR C T O A g ob a w) (Q : Exit → Act → World → Prop) :
    o.wp P a w (fun a' w' => ∃ v eff g' ob', EffOk O nx eff ∧ K v eff ∧ FR C (updT T o.dst v) (eff.O O) (eff.A A) g' ob' a' w') Q := by
  have det : ∀ {K : TV → Eff → Prop}, aop P Ty nx T O A o.op K → o.wp P a w (fun a' w' => ∃ v eff g' ob', EffOk O nx eff ∧ K v eff ∧ FR C (updT T o.dst v) (eff.O O) (eff.A A) g' ob' a' w') Q := fun {K} h => by
    obtain ⟨v, eff, hK, hE, hR⟩ := aop_ok (C := C) ty hnx h
    refine Oper.wp_mono ?_ (hR T O A (fun _ _ h => h) (fun _ _ h => h) (.refl _) (fun _ _ => rfl) (fun _ _ _ h => h) hd g ob a w hF Q)
    rintro a' w' ⟨g', ob', hf⟩
    exact ⟨v, eff, g', ob', hE, hK, hf⟩
  unfold nop at h
  split at h
  · rename_i t0 ho
    obtain ⟨k1, k2⟩ := hF.newMap
    have := k2.put o.dst hd (v := .v (.map w.heap.size)) (V := .map (some w.heap.size)) (.map _)
    unfold Oper.wp execOp
    rw [ho]
    simp only [Option.map_none, Instr.makeMap, Sem.run_bind, Result.andThen_ok, run_newObj, Sem.run_pure, Oper.upon]
    exact ⟨_, .out _, g, ob, trivial, h.out_ _ k1, this⟩
  · rename_i e ho
    split at h
    · split at h
      · rename_i i hi
        split at h
        · rename_i hz
          obtain ⟨z, hz1, hz2⟩ := ty.zero hi
          have hc := (hz1 g).flat hz
          obtain ⟨k1, k2⟩ := hF.share hc e
          have := k2.put o.dst hd (v := .v (.gp w.heap.size 0)) (V := .pointer (some ⟨w.heap.size, 0, none⟩)) (.gp _ _)
          unfold Oper.wp execOp
          rw [ho]
          simp only [Instr.alloc, Sem.run_bind, hz2, Result.andThen_ok, newVar, newRow, run_newObj, Sem.run_pure, Oper.upon]
          rw [Array.toArray_toList] at this
          exact ⟨_, .out _, g, ob, trivial, h.out _ k1, this⟩
        · exact h.elim
      · exact h.elim
    · rw [← ho] at h; exact det h
  · rename_i e x ho
    split at h
    · split at h
      · rename_i v hx
        split at h
        · rename_i hz
          have hc := (show VR g v (a.eval x) from hF.ev (fun _ _ h => h) hx).flat hz
          obtain ⟨k1, k2⟩ := hF.share hc e
          have := k2.put o.dst hd (v := .v (.gp w.heap.size 0)) (V := .pointer (some ⟨w.heap.size, 0, none⟩)) (.gp _ _)
          unfold Oper.wp execOp
          rw [ho]
          simp only [Instr.box, Sem.run_bind, Result.andThen_ok, newVar, newRow, run_newObj, Sem.run_pure, Oper.upon]
          rw [Array.toArray_toList] at this
          exact ⟨_, .out _, g, ob, trivial, h.out _ k1, this⟩
        · exact h.elim
      · exact h.elim
    · rw [← ho] at h; exact det h
  · rename_i c ho
    split at h
    · rename_i f hc
      split at h
      · rename_i gf first cap hf
        split at h
        · rename_i az has
          refine Oper.wp_mono ?_ (hF.call ho hc hf has h hd Q)
          rintro a' w' ⟨v, A', g', hK, hf⟩
          exact ⟨_, .out A', g', ob, trivial, hK, hf⟩
        · exact h.elim
      · exact h.elim
    · rename_i hc
      split at h
      · rename_i s x hargs
        split at h
        · rename_i st xt hat
          split at h
          · rename_i i hi
            split at h
            · rename_i e hde
              split at h
              · rename_i j hj
                split at h
                · rename_i k hk
                  split at h
                  · exact h.elim
                  · rename_i hkd
                    split at h
                    · rename_i sz obk n rows hs
                      split at h
                      · rename_i va hx
                        split at h
                        · rename_i new hsrc
                          split at h
                          · rename_i hzl
                            split at h
                            · rename_i hzo
                              refine Oper.wp_mono ?_ (hF.append ty ho hc hargs hat hi hde hj hk (fun q hq => hkd q hq) hs hx hsrc (Nat.eq_of_beq_eq_true hzl) hzo h hd Q)
                              rintro a' w' ⟨ob', A', g', hK, hf⟩
                              exact ⟨_, .out A', g', ob, trivial, hK, hf⟩
                            · exact h.elim
                          · exact h.elim
                        · exact h.elim
                      · exact h.elim
                    · exact h.elim
                · exact h.elim
              · exact h.elim
            · exact h.elim
          · exact h.elim
        · exact h.elim
      · exact h.elim
    · rename_i hne1 hne2
      have e : Op.call { c with callee := c.callee } = o.op := by rw [ho]
      rw [e] at h
      exact det h
  · exact det h

/-- What holds at the end of a piece of code. -/
def Post (C : Cx) (K : Exit → TM → OW → AO → Prop) : Exit → Act → World → Prop := fun e a w => ∃ tm own A g ob, K e tm own A ∧ FR C (look tm) (own? own) A g ob a w

theorem aops_ok (ty : TyOk P Ty) {sh : List Nat} {ops : Array Oper} {K : Exit → TM → OW → AO → Prop} : ∀ (l : List Oper) {tm : TM} {own : OW} {A : AO} {g : Gh} {ob : Nat → Nat} {a : Act} {w : World},
    aops P Ty C.N sh ops.toList l (K .normal) tm own A → FR C (look tm) (own? own) A g ob a w → wpList P ops (Post C K) l a w
  | [], tm, own, A, g, ob, a, w, h, hF => ⟨tm, own, A, g, ob, h, hF⟩
  | o :: rest, tm, own, A, g, ob, a, w, h, hF => by
    rw [aops_cons] at h
    have h' := hF.wanted (ops := ops) (fun _ _ h => h) h
    unfold wpList
    split at h'
    · rename_i hdst
      have hd : ∀ t, o.dst = some t → t < C.N := fun t e => by
        unfold dstOk at hdst
        rw [e] at hdst
        have h2 : Nat.ble (t + 1) C.N = true := hdst
        exact Nat.le_of_ble_eq_true h2
      split at h'
      · rename_i hw
        rw [if_pos hw]
        refine .inl (Oper.wp_mono ?_ (nop_ok ty (by rw [own?_eq]; simp) h' hd hF _))
        rintro a' w' ⟨v, eff, g', ob', hE, hK, hf⟩
        refine aops_ok ty rest (g := g') (ob := ob') hK ?_
        rw [look_put, effO_get own eff hE]
        exact hf
      · rename_i hw
        rw [hw]
        simp only [Bool.false_eq_true, if_false]
        refine aops_ok ty rest (g := g) (ob := ob) h' ?_
        rw [look_put]
        exact hF.put o.dst hd (v := undefTV) (.raw _)
    · exact h'.elim

theorem leT_ok {n : Nat} {tm : TM} : ∀ {tm' : TM}, leT n tm tm' → ∀ t v, look tm' t = some v → ∃ u, look tm t = some u ∧ TSub n u v
  | [], _, t, v, hv => by cases hv
  | (t', v') :: r, h, t, v, hv => by
    obtain ⟨h1, h2⟩ := h
    simp only [look] at hv
    cases hb : Nat.beq t' t with
    | true =>
      rw [hb] at hv
      injection hv with hv
      subst hv
      have e := Nat.eq_of_beq_eq_true hb
      subst e
      cases hq : look tm t' with
      | none => rw [hq] at h1; exact h1.elim
      | some u => rw [hq] at h1; exact ⟨u, rfl, h1⟩
    | false =>
      rw [hb] at hv
      exact leT_ok h2 t v hv
theorem leO_ok : ∀ {own own' : OW}, leO own own' → ∀ i cs, own? own' i = some cs → ∃ cs', own? own i = some cs' ∧ Subs cs' cs
  | _, [], _, i, cs, h => by cases i <;> cases h
  | r :: rs, r' :: rs', h, i, cs, hi => by
    obtain ⟨h1, h2⟩ := h
    cases i with
    | zero => injection hi with hi; subst hi; exact ⟨r, rfl, h1⟩
    | succ i => exact leO_ok h2 i cs hi
  | [], _ :: _, h, _, _, _ => h.elim

/-- Less may be known. -/
theorem FR.weak {tm tm' : TM} {own own' : OW} {A A' : AO} {g : Gh} {ob : Nat → Nat} {a : Act} {w : World} (hF : FR C (look tm) (own? own) A g ob a w) (h : Le tm own A tm' own' A') : FR C (look tm') (own? own') A' g ob a w := by
  have hO : ∀ i, i < own'.length → own? own' i ≠ none := fun i hi => by rw [own?_eq]; simp [hi]
  have hsub : ∀ i, own? own' i ≠ none → own? own i ≠ none := fun i hi => by
    obtain ⟨cs, e⟩ := Option.ne_none_iff_exists'.1 hi
    obtain ⟨cs', e', _⟩ := leO_ok h.o i cs e
    rw [e']; simp
  refine ⟨hF.size, hF.defers, fun t v hv => ?_, fun i cs e => ?_, fun i j hi hj e => hF.inj i j (hsub i hi) (hsub j hj) e, hF.inv.weak h.a, hF.st.weak h.a⟩
  · obtain ⟨u, h1, h2⟩ := leT_ok h.t t v hv
    obtain ⟨V, h3, h4⟩ := hF.tm t u h1
    refine ⟨V, h3, ?_⟩
    cases u with
    | v x => cases v with
      | v y => exact h2 g V h4
      | lp i o => exact h2.elim
      | ls i o n c => exact h2.elim
    | lp i o => cases v with
      | v y => exact h2.elim
      | lp j o' => obtain ⟨rfl, rfl, h5⟩ := h2; exact ⟨hO _ h5, h4.2⟩
      | ls i o n c => exact h2.elim
    | ls i o n c => cases v with
      | v y => exact h2.elim
      | lp j o' => exact h2.elim
      | ls j o' n' c' => obtain ⟨rfl, rfl, rfl, rfl, h5⟩ := h2; exact ⟨hO _ h5, h4.2⟩
  · obtain ⟨cs', e', hs⟩ := leO_ok h.o i cs e
    obtain ⟨⟨L, Te, h1, h2⟩, h3, h4, h5⟩ := hF.own i cs' e'
    exact ⟨⟨L, Te, h1, hs.cl h2⟩, h3, fun hm => h4 (h.a.mut hm), h5⟩

theorem least_nat {p : Nat → Prop} : ∀ n, p n → ∃ m, p m ∧ ∀ k, p k → m ≤ k := fun n => by
  induction n using Nat.strongRecOn with
  | _ n ih =>
    intro hn
    by_cases h : ∃ k, k < n ∧ p k
    · obtain ⟨k, h1, h2⟩ := h; exact ih k h1 h2
    · exact ⟨n, hn, fun k hk => Classical.byContradiction fun hc => h ⟨k, by omega, hk⟩⟩

/-- What a region that draws its order is worked off by. -/
def DOk (P : Program) (C : Cx) (D : List Oper → (TM → OW → AO → Prop) → TM → OW → AO → Prop) : Prop :=
  ∀ (id : Nat) (ops : Array Oper) (K : Exit → TM → OW → AO → Prop) tm own A g ob a w, D ops.toList (K .normal) tm own A → FR C (look tm) (own? own) A g ob a w → (Code.region id ops true).wp P (Post C K) a w

theorem awp_ok (ty : TyOk P Ty) {sh : List Nat} {D : List Oper → (TM → OW → AO → Prop) → TM → OW → AO → Prop} (hD : DOk P C D) : ∀ (c : Code) {K : Exit → TM → OW → AO → Prop} {tm : TM} {own : OW} {A : AO} {g : Gh} {ob : Nat → Nat} {a : Act} {w : World},
    awp P Ty C.N sh D c K tm own A → FR C (look tm) (own? own) A g ob a w → c.wp P (Post C K) a w := by
  intro c
  induction c with
  | skip => intro K tm own A g ob a w h hF; exact wp_skip ⟨tm, own, A, g, ob, h, hF⟩
  | region id ops draw =>
    intro K tm own A g ob a w h hF
    cases draw with
    | false => exact wp_region_list (aops_ok ty _ h hF)
    | true => exact hD id ops K tm own A g ob a w h hF
  | seq x y ihx ihy =>
    intro K tm own A g ob a w h hF
    refine wp_seq (wp_mono (ihx h hF) ?_)
    rintro e a' w' ⟨tm', own', A', g', ob', hK, hF'⟩
    cases e with
    | normal => exact ihy hK hF'
    | _ => exact ⟨tm', own', A', g', ob', hK, hF'⟩
  | cond x t f iht ihf =>
    intro K tm own A g ob a w h hF
    have h : (match ev (look tm) x with
      | some (.v (.bool true)) => awp P Ty C.N sh D t K tm own A
      | some (.v (.bool false)) => awp P Ty C.N sh D f K tm own A
      | _ => False) := h
    split at h
    · rename_i hx
      exact wp_cond_true (VR.is_bool (hF.ev (fun _ _ h => h) hx)) (iht h hF)
    · rename_i hx
      exact wp_cond_false (VR.is_bool (hF.ev (fun _ _ h => h) hx)) (ihf h hF)
    · exact h.elim
  | block id b ih =>
    intro K tm own A g ob a w h hF
    refine wp_block (wp_mono (ih h hF) ?_)
    rintro e a' w' ⟨tm', own', A', g', ob', hK, hF'⟩
    cases e with
    | exit id' =>
      simp only at hK
      show (if id' = id then Post C K .normal a' w' else Post C K (.exit id') a' w')
      cases hb : Nat.beq id' id with
      | true =>
        rw [hb] at hK
        rw [if_pos (Nat.eq_of_beq_eq_true hb)]
        exact ⟨tm', own', A', g', ob', hK, hF'⟩
      | false =>
        rw [hb] at hK
        rw [if_neg (fun e => by subst e; rw [show Nat.beq id' id' = true from Nat.beq_refl id'] at hb; cases hb)]
        exact ⟨tm', own', A', g', ob', hK, hF'⟩
    | _ => exact ⟨tm', own', A', g', ob', hK, hF'⟩
  | loop b ih =>
    intro K tm own A g ob a w h hF
    obtain ⟨ι, s, r, m, μ, i0, h0, hr⟩ := h.out
    let p : Act → World → Nat → Prop := fun a w n => ∃ i g ob, FR C (look (s i)) (own? (r i)) (m i) g ob a w ∧ μ i = n
    have hmin : ∀ a w, (∃ n, p a w n) → ∃ n, p a w n ∧ ∀ k, p a w k → n ≤ k := fun a w ⟨n, hn⟩ => least_nat n hn
    classical
    let ν : Act → World → Nat := fun a w => if h : ∃ n, p a w n then Classical.choose (hmin a w h) else 0
    refine wp_loop (fun a w => ∃ n, p a w n) ν ⟨_, i0, g, ob, hF.weak h0, rfl⟩ (fun a w hp => ?_)
    have hν : p a w (ν a w) ∧ ∀ k, p a w k → ν a w ≤ k := by
      have := Classical.choose_spec (hmin a w hp)
      simp only [ν, dif_pos hp]
      exact this
    obtain ⟨⟨i, g1, ob1, hF1, hi⟩, _⟩ := hν
    refine wp_mono (ih (hr i) hF1) ?_
    rintro e a' w' ⟨tm', own', A', g', ob', hK, hF'⟩
    cases e with
    | normal =>
      obtain ⟨j, hle, hlt⟩ := hK
      have hp' : p a' w' (μ j) := ⟨j, g', ob', hF'.weak hle, rfl⟩
      have hex : ∃ n, p a' w' n := ⟨_, hp'⟩
      refine ⟨hex, ?_⟩
      have := (Classical.choose_spec (hmin a' w' hex)).2 _ hp'
      simp only [ν, dif_pos hex]
      simp only [ν] at hi
      omega
    | _ => exact ⟨tm', own', A', g', ob', hK, hF'⟩
  | exit id => intro K tm own A g ob a w h hF; exact wp_exit ⟨tm, own, A, g, ob, h, hF⟩
  | label l => intro K tm own A g ob a w h hF; exact wp_label ⟨tm, own, A, g, ob, h, hF⟩
  | ret => intro K tm own A g ob a w h hF; exact wp_ret ⟨tm, own, A, g, ob, h, hF⟩
  | _ => intro K tm own A g ob a w h hF; exact h.elim
theorem resV_ok (ty : TyOk P Ty) {tm : TM} {own : OW} {A : AO} {r : ResultVar} {K : AV → Prop} (h : resV Ty tm own A r K) :
    ∃ v, K v ∧ ∀ g ob a w, FR C (look tm) (own? own) A g ob a w → ∃ V, VR g v V ∧ (match r with | .tmp t => pure (a.tmps.getD t undef) | .cell x t => do loadVar t (← asAddr (a.tmps.getD x undef)) : Sem Value).run P w = .ok V w := by
  cases r with
  | tmp t =>
    simp only [resV] at h
    split at h
    · rename_i v hv
      refine ⟨v, h, fun g ob a w hF => ?_⟩
      obtain ⟨V, h1, h2⟩ := hF.tm t _ hv
      exact ⟨V, h2, by simp [h1]⟩
    · exact h.elim
  | cell t ty' =>
    simp only [resV] at h
    split at h
    · rename_i i hi
      split at h
      · rename_i k off hv
        split at h
        · rename_i row hrow
          obtain ⟨v, hK, hr⟩ := ld_ok (P := P) ty hi h
          refine ⟨v, hK, fun g ob a w hF => ?_⟩
          obtain ⟨V, h1, _, h2⟩ := hF.tm t _ hv
          obtain ⟨L, hL, hc⟩ := (hF.own k row hrow).1.cells
          obtain ⟨V', h3, h4⟩ := hr g L w (ob k) 0 hL hc
          refine ⟨V', h4, ?_⟩
          subst h2
          rw [Nat.zero_add] at h3
          simp only [Instr.loadAt, Instr.sureAddr, Sem.run_bind, Sem.run_pure, Result.andThen_ok] at h3
          have e : a.tmps.getD t undef = .pointer (some ⟨ob k, off, none⟩) := by simp [h1]
          simp only [e, asAddr, Sem.run_bind, Sem.run_pure, Result.andThen_ok, h3]
        · exact h.elim
      · rename_i p off hv
        obtain ⟨row, hrow, h⟩ := h.out
        obtain ⟨v, hK, hr⟩ := ld_ok (P := P) ty hi h
        refine ⟨v, hK, fun g ob a w hF => ?_⟩
        obtain ⟨V, h1, h2⟩ := hF.tm t _ hv
        have h2 := VR.is_gp h2
        obtain ⟨L, hL, hc⟩ := (hF.inv.rows p row hrow).1.cells
        obtain ⟨V', h3, h4⟩ := hr g L w p 0 hL hc
        refine ⟨V', h4, ?_⟩
        subst h2
        rw [Nat.zero_add] at h3
        simp only [Instr.loadAt, Instr.sureAddr, Sem.run_bind, Sem.run_pure, Result.andThen_ok] at h3
        have e : a.tmps.getD t undef = .pointer (some ⟨p, off, none⟩) := by simp [h1]
        simp only [e, asAddr, Sem.run_bind, Sem.run_pure, Result.andThen_ok, h3]
      · exact h.elim
    · exact h.elim

def resS (tmps : Array Value) : ResultVar → Sem Value
  | .tmp t => pure (tmps.getD t undef)
  | .cell x t => do loadVar t (← asAddr (tmps.getD x undef))
theorem resVs_ok (ty : TyOk P Ty) {tm : TM} {own : OW} {A : AO} : ∀ {rs : List ResultVar} {K : List AV → Prop}, resVs Ty tm own A rs K →
    ∃ vs, K vs ∧ ∀ g ob a w, FR C (look tm) (own? own) A g ob a w → ∃ L, VL g vs L ∧ (rs.mapM (resS a.tmps)).run P w = .ok L w
  | [], K, h => ⟨[], h, fun g ob a w _ => ⟨[], VL.nil g, rfl⟩⟩
  | r :: rs, K, h => by
    obtain ⟨v, h1, hr⟩ := resV_ok (C := C) ty h
    obtain ⟨vs, h2, hrs⟩ := resVs_ok ty h1
    refine ⟨_, h2, fun g ob a w hF => ?_⟩
    obtain ⟨V, k1, k2⟩ := hr g ob a w hF
    obtain ⟨L, k3, k4⟩ := hrs g ob a w hF
    refine ⟨V :: L, VL.cons k1 k3, ?_⟩
    have k2' : (resS a.tmps r).run P w = .ok V w := by cases r <;> exact k2
    simp [List.mapM_cons, k2', k4]

theorem fin_ok (ty : TyOk P Ty) {fn : Func} {tm : TM} {own : OW} {A : AO} {Q : AV → AO → Prop} (h : fin Ty fn.results.toList Q tm own A) {g : Gh} {ob : Nat → Nat} {a : Act} {w : World} (hF : FR C (look tm) (own? own) A g ob a w) :
    ∃ V v A', (results fn a.tmps).run P w = .ok V w ∧ Q v A' ∧ VR g v V ∧ Inv A' g w ∧ St C.A0 C.g0 C.w0 A' g w := by
  have hres : results fn a.tmps = (do let vs ← fn.results.toList.mapM (resS a.tmps); pure (if h : vs.toArray.size = 1 then vs.toArray[0] else .tuple vs.toArray)) := by
    unfold results
    rw [Array.mapM_eq_mapM_toList]
    simp only [map_eq_pure_bind, bind_assoc, pure_bind]
    congr 1
  have key : ∃ vs, (∃ v, (match vs with | [x] => v = x | vs => v = .tup vs) ∧ FK Q v A) ∧ ∃ L, VL g vs L ∧ (fn.results.toList.mapM (resS a.tmps)).run P w = .ok L w := by
    unfold fin at h
    split at h
    · rename_i r hr
      obtain ⟨v, h1, h2⟩ := resV_ok (C := C) ty h
      obtain ⟨V, k1, k2⟩ := h2 g ob a w hF
      refine ⟨[v], ⟨v, rfl, h1⟩, [V], VL.cons k1 (VL.nil g), ?_⟩
      have k2' : (resS a.tmps r).run P w = .ok V w := by cases r <;> exact k2
      rw [hr]
      simp [List.mapM_cons, k2']
    · rename_i hne
      obtain ⟨vs, h1, h2⟩ := resVs_ok (C := C) ty h
      obtain ⟨L, k1, k2⟩ := h2 g ob a w hF
      refine ⟨vs, ⟨.tup vs, ?_, h1⟩, L, k1, k2⟩
      have : vs.length ≠ 1 := fun e => by
        have hl : ∀ {rs : List ResultVar} {K : List AV → Prop}, resVs Ty tm own A rs K → ∀ {L : List Value}, (rs.mapM (resS a.tmps)).run P w = .ok L w → L.length = rs.length := fun {rs} => by
          induction rs with
          | nil => intro K _ L hL; simp at hL; subst hL; rfl
          | cons r rs ih =>
            intro K hK L hL
            obtain ⟨v, q1, q2⟩ := resV_ok (C := C) ty hK
            obtain ⟨V, q3, q4⟩ := q2 g ob a w hF
            obtain ⟨vs', q5, q6⟩ := resVs_ok (C := C) ty q1
            obtain ⟨L', q7, q8⟩ := q6 g ob a w hF
            have q4' : (resS a.tmps r).run P w = .ok V w := by cases r <;> exact q4
            simp [List.mapM_cons, q4', q8] at hL
            subst hL
            simp [ih q1 q8]
        have := hl h k2
        rw [k1.len, e] at this
        match hq : fn.results.toList, this with
        | [r], _ => exact hne r hq
      cases vs with
      | nil => rfl
      | cons x r => cases r with
        | nil => simp at this
        | cons y r => rfl
  obtain ⟨vs, ⟨v, hv, hfk⟩, L, hL, hrun⟩ := key
  obtain ⟨v', A', hs, hle, hq⟩ := hfk.out
  have hfin : ∃ V, (results fn a.tmps).run P w = .ok V w ∧ VR g v V := by
    rw [hres]
    simp only [Sem.run_bind, hrun, Result.andThen_ok, Sem.run_pure]
    refine ⟨_, rfl, ?_⟩
    cases vs with
    | nil => subst hv; rw [hL.inv_nil]; exact VR.mk_tup (VL.nil g)
    | cons x r => cases r with
      | nil =>
        subst hv
        obtain ⟨X, L', rfl, h1, h2⟩ := hL.inv_cons
        rw [h2.inv_nil]; exact h1
      | cons y r =>
        subst hv
        have : ¬ L.toArray.size = 1 := by have := hL.len; simp at this; simp [this]
        rw [dif_neg this]
        exact VR.mk_tup hL
  obtain ⟨V, h1, h2⟩ := hfin
  exact ⟨V, v', A', h1, hq, hs _ _ h2, hF.inv.weak hle, hF.st.weak hle⟩

/-- The arguments in their temporaries. -/
def argT : Nat → List AV → TM
  | _, [] => []
  | k, v :: vs => (k, .v v) :: argT (k + 1) vs
theorem look_argT : ∀ (vs : List AV) (k t : Nat), look (argT k vs) t = if k ≤ t then (vs[t - k]?).map TV.v else none
  | [], k, t => by simp [argT, look]
  | v :: vs, k, t => by
    simp only [argT, look]
    cases hb : Nat.beq k t with
    | true =>
      have e := Nat.eq_of_beq_eq_true hb
      subst e; simp
    | false =>
      have e : k ≠ t := fun e => by subst e; rw [show Nat.beq k k = true from Nat.beq_refl k] at hb; cases hb
      simp only [look_argT vs (k + 1) t]
      by_cases h : k ≤ t
      · have h1 : k + 1 ≤ t := by omega
        rw [if_pos h1, if_pos h, show t - k = (t - (k + 1)) + 1 by omega]; simp
      · rw [if_neg h, if_neg (by omega)]

/-- A function, by its text. -/
theorem ASpec.of {P : Program} {Ty : TypeId → Option TyI} (ty : TyOk P Ty) {f : FuncId} {fn : Func} {c : Code} {N : Nat} (hf : P.funcs[f]? = some fn) (hb : fn.body = some c) (hN : fn.ntmps = N) (sh : List Nat)
    (D : List Oper → (TM → OW → AO → Prop) → TM → OW → AO → Prop) (hD : ∀ C : Cx, C.N = N → DOk P C D) {args : List AV} (hargs : args.length ≤ N) {A : AO} {Q : AV → AO → Prop}
    (h : awp P Ty N sh D c (fun e tm own A => match e with | .normal => fin Ty fn.results.toList Q tm own A | .ret => fin Ty fn.results.toList Q tm own A | _ => False) (argT 0 args) [] A) : ASpec P f args A Q := by
  intro g w Vs hI hcst hV
  have hlen := hV.len
  let C : Cx := { N := N, A0 := A, g0 := g, w0 := w, cst := hcst }
  refine calls_of_wp hf hb ?_
  have hF : FR C (look (argT 0 args)) (own? []) A g (fun _ => 0) { tmps := Vs.toArray ++ Array.replicate (fn.ntmps - Vs.toArray.size) undef, defers := [] } w := by
    refine ⟨?_, rfl, fun t v hv => ?_, fun i cs e => (by cases i <;> cases e), fun i j hi => (by cases i <;> exact absurd rfl hi), hI, St.refl _ _ _⟩
    · simp [hN]; show _ = N; omega
    · rw [look_argT] at hv
      simp only [Nat.zero_le, if_true, Nat.sub_zero, Option.map_eq_some_iff] at hv
      obtain ⟨x, hx, rfl⟩ := hv
      obtain ⟨V, h1, h2⟩ := hV.getElem? hx
      refine ⟨V, ?_, h2⟩
      have hlt := (List.getElem?_eq_some_iff.1 h1).1
      rw [Array.getElem?_append_left (by simpa using hlt)]
      simpa using h1
  refine wp_mono (awp_ok (C := C) ty (hD C rfl) c h hF) ?_
  rintro e a' w' ⟨tm', own', A', g', ob', hK, hF'⟩
  cases e with
  | normal =>
    obtain ⟨V, v, A'', h1, h2, h3, h4, h5⟩ := fin_ok ty hK hF'
    exact ⟨hF'.defers, V, h1, v, A'', g', V, rfl, h2, h3, h4, h5⟩
  | ret =>
    obtain ⟨V, v, A'', h1, h2, h3, h4, h5⟩ := fin_ok ty hK hF'
    exact ⟨hF'.defers, V, h1, v, A'', g', V, rfl, h2, h3, h4, h5⟩
  | _ => exact hK.elim
end
end Ab
end Go.Proofs.YtpmigkbcldffeaaGreatDoor
