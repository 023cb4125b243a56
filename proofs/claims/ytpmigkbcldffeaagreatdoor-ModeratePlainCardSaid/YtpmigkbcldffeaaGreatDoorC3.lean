/- Regions whose order is drawn: one working off, in the text's order, serves every order. -/
import Derived.Test.YtpmigkbcldffeaaGreatDoorC2
import Derived.ChangeKeysEq
import Derived.Laws.StructEq
set_option linter.unusedVariables false
set_option linter.unusedSimpArgs false
set_option linter.unusedSectionVars false
namespace Go.Proofs.YtpmigkbcldffeaaGreatDoor
namespace Ab

def restr {α : Type} (l : List Nat) (T : Nat → Option α) : Nat → Option α := fun t => match memb l t with | true => T t | false => none
theorem memb_iff : ∀ (l : List Nat) (n : Nat), memb l n = true ↔ n ∈ l
  | [], n => by simp [memb]
  | x :: r, n => by
    unfold memb
    cases hb : Nat.beq x n with
    | true => have := Nat.eq_of_beq_eq_true hb; simp [this]
    | false =>
      have e : x ≠ n := fun e => by subst e; rw [show Nat.beq x x = true from Nat.beq_refl x] at hb; cases hb
      simp [memb_iff r n, Ne.symm e]
theorem restr_sub {α : Type} {l : List Nat} {T : Nat → Option α} {t : Nat} {x : α} (h : restr l T t = some x) : T t = some x ∧ t ∈ l := by
  unfold restr at h
  cases hm : memb l t with
  | true => rw [hm] at h; exact ⟨h, (memb_iff l t).1 hm⟩
  | false => rw [hm] at h; cases h

def opdT : List Operand → List Nat
  | [] => []
  | .tmp t :: r => t :: opdT r
  | _ :: r => opdT r
def optT : Option Operand → List Nat
  | some (.tmp t) => [t]
  | _ => []
def pairT : List (Nat × Operand) → List Nat
  | [] => []
  | (_, .tmp t) :: r => t :: pairT r
  | _ :: r => pairT r
def calT : Callee → List Nat
  | .value (.tmp t) => [t]
  | _ => []
/-- The temporaries that an operation reads. -/
def opT : Op → List Nat
  | .move x | .assign x | .box _ x | .load _ x | .nilCheck x | .unOp _ _ x | .convert _ _ x | .makeInterface _ x | .fieldAddr _ x _ | .field _ x _ | .extract x _ => opdT [x]
  | .pick c a b => opdT [c, a, b]
  | .build _ ps | .buildSlice _ _ ps => pairT ps.toList
  | .store _ a v | .binOp _ _ a v _ | .indexAddr _ a v | .index _ a v => opdT [a, v]
  | .lookup _ x y _ => opdT [x, y]
  | .mapUpdate _ x y z | .insert _ x y z => opdT [x, y, z]
  | .typeAssert x _ _ _ => opdT [x]
  | .makeFunc _ f c => opdT f.toList ++ opdT c.toList
  | .slice _ x l h m => opdT [x] ++ optT l ++ optT h ++ optT m
  | .call c => calT c.callee ++ opdT c.args.toList
  | _ => []
def guardT (l0 : List Oper) (o : Oper) : List Nat :=
  match o.guard with
  | none => []
  | some (j, _) => match opAt l0 j with
    | some oj => match oj.dst with
      | some d => [d]
      | none => []
    | none => []
def rdT (l0 : List Oper) (o : Oper) : List Nat := guardT l0 o ++ opT o.op
def lpsOf (T : Nat → Option TV) : List Nat → List Nat
  | [] => []
  | t :: r => match T t with
    | some (.lp k _) => k :: lpsOf T r
    | some (.ls k _ _ _) => k :: lpsOf T r
    | _ => lpsOf T r
def isNew : Op → Bool
  | .alloc _ | .box _ _ => true
  | _ => false
/-- The variables of the call's own that an operation looks at. -/
def rdO (T : Nat → Option TV) (o : Oper) (nx : Nat) : List Nat :=
  match isNew o.op with
  | true => nx :: lpsOf T (opT o.op)
  | false => lpsOf T (opT o.op)

structure FP where
  rT : List Nat
  wT : Option Nat
  rO : List Nat
  wO : Option Nat

def hit (w : Option Nat) (l : List Nat) : Bool :=
  match w with
  | some t => memb l t
  | none => false
def same (a b : Option Nat) : Bool :=
  match a, b with
  | some x, some y => Nat.beq x y
  | _, _ => false
def apartF (x y : FP) : Bool :=
  !hit x.wT y.rT && !hit y.wT x.rT && !same x.wT y.wT && !hit x.wO y.rO && !hit y.wO x.rO && !same x.wO y.wO

/-- The operations that must come before. -/
def ancE (acc : List Nat) : List Edge → Nat
  | [] => 0
  | e :: r => match Region.binds .any e with
    | true => (2 ^ e.on ||| acc.getD e.on 0) ||| ancE acc r
    | false => ancE acc r
def ancs : List Oper → List Nat → List Nat
  | [], acc => acc
  | o :: r, acc => ancs r (acc ++ [ancE acc o.after.toList])
def edgesOk (i : Nat) : List Edge → Bool
  | [] => true
  | e :: r => (!Region.binds .any e || Nat.blt e.on i) && edgesOk i r
def edgesAll : Nat → List Oper → Bool
  | _, [] => true
  | i, o :: r => edgesOk i o.after.toList && edgesAll (i + 1) r
/-- Against all that stand before. -/
def chk1 (an : Nat) (fp : FP) : Nat → List FP → Bool
  | _, [] => true
  | j, x :: r => (an.testBit j || apartF x fp) && chk1 an fp (j + 1) r
def chkA (an : List Nat) (done : List FP) : Nat → List FP → Bool
  | _, [] => true
  | i, fp :: r => chk1 (an.getD i 0) fp 0 done && chkA an (done ++ [fp]) (i + 1) r
def chk (l0 : List Oper) (tr : List FP) : Bool := edgesAll 0 l0 && chkA (ancs l0 []) [] 0 tr

noncomputable def aD (P : Program) (Ty : TypeId → Option TyI) (N : Nat) (l0 l : List Oper) : List FP → (TM → OW → AO → Prop) → TM → OW → AO → Prop :=
  List.rec (motive := fun _ => List FP → (TM → OW → AO → Prop) → TM → OW → AO → Prop) (fun tr K tm own A => NK (chk l0 tr = true) (K tm own A))
    (fun o _ ih tr K tm own A => wantB l0 (restr (rdT l0 o) (look tm)) o fun wn => match dstOk N o with
      | true => match wn with
        | true => aop P Ty own.length (restr (rdT l0 o) (look tm)) (restr (rdO (look tm) o own.length) (own? own)) A o.op fun v eff => match eff with
          | .nop => ih (tr ++ [⟨rdT l0 o, o.dst, rdO (look tm) o own.length, none⟩]) K (putT tm o.dst v) own A
          | .own k cs => match memb (rdO (look tm) o own.length) k with
            | true => ih (tr ++ [⟨rdT l0 o, o.dst, rdO (look tm) o own.length, some k⟩]) K (putT tm o.dst v) (setO own k cs) A
            | false => False
          | .out _ => False
        | false => ih (tr ++ [⟨rdT l0 o, o.dst, [], none⟩]) K (putT tm o.dst undefTV) own A
      | false => False) l
theorem aD_cons {P : Program} {Ty : TypeId → Option TyI} {N : Nat} {l0 : List Oper} {o : Oper} {rest : List Oper} {tr : List FP} {K : TM → OW → AO → Prop} {tm : TM} {own : OW} {A : AO} : aD P Ty N l0 (o :: rest) tr K tm own A =
    wantB l0 (restr (rdT l0 o) (look tm)) o fun wn => match dstOk N o with
    | true => match wn with
      | true => aop P Ty own.length (restr (rdT l0 o) (look tm)) (restr (rdO (look tm) o own.length) (own? own)) A o.op fun v eff => match eff with
        | .nop => aD P Ty N l0 rest (tr ++ [⟨rdT l0 o, o.dst, rdO (look tm) o own.length, none⟩]) K (putT tm o.dst v) own A
        | .own k cs => match memb (rdO (look tm) o own.length) k with
          | true => aD P Ty N l0 rest (tr ++ [⟨rdT l0 o, o.dst, rdO (look tm) o own.length, some k⟩]) K (putT tm o.dst v) (setO own k cs) A
          | false => False
        | .out _ => False
      | false => aD P Ty N l0 rest (tr ++ [⟨rdT l0 o, o.dst, [], none⟩]) K (putT tm o.dst undefTV) own A
    | false => False := rfl

section
variable {P : Program} {Ty : TypeId → Option TyI} {C : Cx} {ops : Array Oper} {A : AO} {Qx : Exit → Act → World → Prop}

/-- One operation of the working off. -/
structure SI where
  idx : Nat
  fp : FP
  v : TV
  eff : Eff

def SI.nT (x : SI) (T : Nat → Option TV) : Nat → Option TV := updT T x.fp.wT x.v
def SI.nO (x : SI) (O : Nat → Option (List AV)) : Nat → Option (List AV) := x.eff.O O
def SI.agree (x : SI) (T T' : Nat → Option TV) (O O' : Nat → Option (List AV)) : Prop := (∀ t, t ∈ x.fp.rT → T t = T' t) ∧ ∀ k, k ∈ x.fp.rO → O k = O' k
def SI.run (P : Program) (C : Cx) (ops : Array Oper) (A : AO) (Qx : Exit → Act → World → Prop) (x : SI) (T : Nat → Option TV) (O : Nat → Option (List AV)) : Prop :=
  ∀ g ob a w, FR C T O A g ob a w → ∀ K : Act → World → Prop, (∀ a' w' g' ob', FR C (x.nT T) (x.nO O) A g' ob' a' w' → K a' w') → wpOp P ops Qx x.idx K a w
def SI.ok (P : Program) (C : Cx) (ops : Array Oper) (A : AO) (Qx : Exit → Act → World → Prop) (x : SI) (T : Nat → Option TV) (O : Nat → Option (List AV)) : Prop :=
  ∀ T' O', x.agree T T' O O' → x.run P C ops A Qx T' O'

/-- What is written is what the footprint says. -/
def SI.wf (x : SI) : Prop := (∀ k cs, x.eff = .own k cs → x.fp.wO = some k) ∧ (∀ A', x.eff ≠ .out A')

def Seqn (P : Program) (C : Cx) (ops : Array Oper) (A : AO) (Qx : Exit → Act → World → Prop) : List SI → (Nat → Option TV) → (Nat → Option (List AV)) → (Nat → Option TV) → (Nat → Option (List AV)) → Prop
  | [], T, O, Tn, On => T = Tn ∧ O = On
  | x :: R, T, O, Tn, On => x.ok P C ops A Qx T O ∧ Seqn P C ops A Qx R (x.nT T) (x.nO O) Tn On

theorem apart_facts {x y : FP} (h : apartF x y = true) : (∀ t, x.wT = some t → t ∉ y.rT) ∧ (∀ t, y.wT = some t → t ∉ x.rT) ∧ (∀ t, x.wT = some t → y.wT ≠ some t) ∧
    (∀ t, x.wO = some t → t ∉ y.rO) ∧ (∀ t, y.wO = some t → t ∉ x.rO) ∧ (∀ t, x.wO = some t → y.wO ≠ some t) := by
  unfold apartF at h
  simp only [Bool.and_eq_true, Bool.not_eq_true'] at h
  obtain ⟨⟨⟨⟨⟨h1, h2⟩, h3⟩, h4⟩, h5⟩, h6⟩ := h
  have hh : ∀ {w : Option Nat} {l : List Nat}, hit w l = false → ∀ t, w = some t → t ∉ l := fun {w l} hf t e hm => by
    subst e
    simp only [hit] at hf
    rw [(memb_iff l t).2 hm] at hf; cases hf
  have hs : ∀ {a b : Option Nat}, same a b = false → ∀ t, a = some t → b ≠ some t := fun {a b} hf t e1 e2 => by
    subst e1; subst e2
    simp only [same] at hf
    rw [show Nat.beq t t = true from Nat.beq_refl t] at hf; cases hf
  exact ⟨hh h1, hh h2, hs h3, hh h4, hh h5, hs h6⟩

theorem SI.next_agree {x y : SI} (hx : x.wf) (h : apartF x.fp y.fp = true) (T : Nat → Option TV) (O : Nat → Option (List AV)) : y.agree (x.nT T) T (x.nO O) O := by
  obtain ⟨h1, _, _, h4, _, _⟩ := apart_facts h
  refine ⟨fun t ht => ?_, fun k hk => ?_⟩
  · unfold SI.nT updT
    rw [if_neg (fun e => h1 t e.symm ht)]
  · unfold SI.nO
    cases he : x.eff with
    | nop => rfl
    | out A' => exact absurd he (hx.2 A')
    | own k' cs =>
      show updO O k' cs k = O k
      unfold updO
      rw [if_neg (fun e : k = k' => h4 k' (hx.1 k' cs he) (e ▸ hk))]
theorem apart_symm {x y : FP} (h : apartF x y = true) : apartF y x = true := by
  unfold apartF at h ⊢
  have hs : ∀ a b, same a b = same b a := fun a b => by
    cases a <;> cases b <;> simp [same]
    rename_i m n
    rw [Bool.eq_iff_iff]; simp; exact eq_comm
  rw [hs y.wT, hs y.wO]
  simp only [Bool.and_eq_true] at h ⊢
  exact ⟨⟨⟨⟨⟨h.1.1.1.1.2, h.1.1.1.1.1⟩, h.1.1.1.2⟩, h.1.2⟩, h.1.1.2⟩, h.2⟩
theorem SI.comm {x y : SI} (hx : x.wf) (hy : y.wf) (h : apartF x.fp y.fp = true) (T : Nat → Option TV) (O : Nat → Option (List AV)) : y.nT (x.nT T) = x.nT (y.nT T) ∧ y.nO (x.nO O) = x.nO (y.nO O) := by
  obtain ⟨_, _, h3, _, _, h6⟩ := apart_facts h
  refine ⟨?_, ?_⟩
  · funext t
    unfold SI.nT updT
    by_cases e1 : some t = x.fp.wT
    · have e2 : ¬ some t = y.fp.wT := fun e2 => h3 t e1.symm e2.symm
      simp only [if_pos e1, if_neg e2]
    · simp only [if_neg e1]
  · funext k
    unfold SI.nO
    cases he : x.eff with
    | nop => rfl
    | out A' => exact absurd he (hx.2 A')
    | own k1 c1 =>
      cases hf : y.eff with
      | nop => rfl
      | out A' => exact absurd hf (hy.2 A')
      | own k2 c2 =>
        show updO (updO O k1 c1) k2 c2 k = updO (updO O k2 c2) k1 c1 k
        have hne : k1 ≠ k2 := fun e => h6 k1 (hx.1 _ _ he) (by rw [hy.1 _ _ hf, e])
        unfold updO
        by_cases e1 : k = k1 <;> by_cases e2 : k = k2 <;> simp [e1, e2]
        · exact absurd (e1.symm.trans e2) hne
        · subst e1; simp [hne]
        · subst e2; simp [Ne.symm hne]

theorem agree_trans {x : SI} {T T' T'' : Nat → Option TV} {O O' O'' : Nat → Option (List AV)} (h : x.agree T T' O O') (k : x.agree T' T'' O' O'') : x.agree T T'' O O'' :=
  ⟨fun t ht => (h.1 t ht).trans (k.1 t ht), fun t ht => (h.2 t ht).trans (k.2 t ht)⟩
theorem agree_symm {x : SI} {T T' : Nat → Option TV} {O O' : Nat → Option (List AV)} (h : x.agree T T' O O') : x.agree T' T O' O := ⟨fun t ht => (h.1 t ht).symm, fun t ht => (h.2 t ht).symm⟩

/-- An operation that nothing ahead of it touches may be taken first. -/
theorem Seqn.take {j : SI} (hj : j.wf) : ∀ (R1 R2 : List SI) {T : Nat → Option TV} {O : Nat → Option (List AV)} {Tn : Nat → Option TV} {On : Nat → Option (List AV)},
    Seqn P C ops A Qx (R1 ++ j :: R2) T O Tn On → (∀ x ∈ R1, x.wf ∧ apartF x.fp j.fp = true) → j.ok P C ops A Qx T O ∧ Seqn P C ops A Qx (R1 ++ R2) (j.nT T) (j.nO O) Tn On
  | [], R2, T, O, Tn, On, h, _ => h
  | x :: R1, R2, T, O, Tn, On, h, hi => by
    obtain ⟨hx, hr⟩ := h
    obtain ⟨hw, ha⟩ := hi x (by simp)
    obtain ⟨h1, h2⟩ := Seqn.take hj R1 R2 hr (fun y hy => hi y (List.mem_cons_of_mem _ hy))
    obtain ⟨c1, c2⟩ := SI.comm hw hj ha T O
    refine ⟨fun T' O' hag => h1 T' O' (agree_trans (SI.next_agree hw ha T O) hag), fun T' O' hag => hx T' O' (agree_trans (agree_symm (SI.next_agree hj (apart_symm ha) T O)) hag), ?_⟩
    rw [c1, c2] at h2
    exact h2

theorem ancE_bit (acc : List Nat) (k : Nat) : ∀ (es : List Edge), (ancE acc es).testBit k = true → ∃ e ∈ es, Region.binds .any e = true ∧ (e.on = k ∨ (acc.getD e.on 0).testBit k = true)
  | [], h => by simp [ancE] at h
  | e :: r, h => by
    unfold ancE at h
    split at h
    · rename_i hb
      rw [Nat.testBit_or, Nat.testBit_or, Bool.or_eq_true, Bool.or_eq_true, Nat.testBit_two_pow] at h
      rcases h with (h | h) | h
      · exact ⟨e, by simp, hb, .inl (by simpa using h)⟩
      · exact ⟨e, by simp, hb, .inr h⟩
      · obtain ⟨e', h1, h2⟩ := ancE_bit acc k r h
        exact ⟨e', List.mem_cons_of_mem _ h1, h2⟩
    · obtain ⟨e', h1, h2⟩ := ancE_bit acc k r h
      exact ⟨e', List.mem_cons_of_mem _ h1, h2⟩
theorem edgesOk_mem {i : Nat} : ∀ {es : List Edge}, edgesOk i es = true → ∀ e ∈ es, Region.binds .any e = true → e.on < i
  | [], _, e, he, _ => by simp at he
  | e0 :: r, h, e, he, hb => by
    unfold edgesOk at h
    rw [Bool.and_eq_true] at h
    rcases List.mem_cons.1 he with rfl | he
    · rw [hb] at h
      have := h.1
      simp only [Bool.not_true, Bool.false_or] at this
      have h2 : Nat.ble (e.on + 1) i = true := this
      exact Nat.le_of_ble_eq_true h2
    · exact edgesOk_mem h.2 e he hb
theorem edgesAll_get : ∀ (l : List Oper) (i : Nat), edgesAll i l = true → ∀ (j : Nat) o, l[j]? = some o → edgesOk (i + j) o.after.toList = true
  | [], i, _, j, o, h => by simp at h
  | o0 :: r, i, h, j, o, hj => by
    unfold edgesAll at h
    rw [Bool.and_eq_true] at h
    cases j with
    | zero => simp at hj; subst hj; exact h.1
    | succ j =>
      have := edgesAll_get r (i + 1) h.2 j o (by simpa using hj)
      rwa [show i + 1 + j = i + (j + 1) by omega] at this
/-- The table of what must come before. -/
theorem ancs_get : ∀ (l : List Oper) (acc : List Nat) (i0 : Nat), acc.length = i0 → edgesAll i0 l = true → ∀ (j : Nat) o, l[j]? = some o → ∀ k, ((ancs l acc).getD (i0 + j) 0).testBit k = true →
    ∃ e ∈ o.after.toList, Region.binds .any e = true ∧ (e.on = k ∨ ((ancs l acc).getD e.on 0).testBit k = true)
  | [], acc, i0, _, _, j, o, h, _, _ => by simp at h
  | o0 :: r, acc, i0, hl, he, j, o, hj, k, hk => by
    unfold edgesAll at he
    rw [Bool.and_eq_true] at he
    have pre : ∀ (l : List Oper) (acc : List Nat) (m : Nat), m < acc.length → (ancs l acc).getD m 0 = acc.getD m 0 := by
      intro l
      induction l with
      | nil => intro acc m _; rfl
      | cons o l ih =>
        intro acc m hm
        rw [ancs, ih _ m (by simp; omega)]
        simp [List.getD_eq_getElem?_getD, List.getElem?_append_left hm]
    cases j with
    | zero =>
      simp at hj
      subst hj
      rw [Nat.add_zero, ancs, pre r _ i0 (by simp; omega)] at hk
      have : (acc ++ [ancE acc o0.after.toList]).getD i0 0 = ancE acc o0.after.toList := by
        subst hl; simp [List.getD_eq_getElem?_getD]
      rw [this] at hk
      obtain ⟨e, h1, h2, h3⟩ := ancE_bit acc k _ hk
      refine ⟨e, h1, h2, h3.imp id (fun h3 => ?_)⟩
      have hlt := edgesOk_mem he.1 e h1 h2
      rw [ancs, pre r _ e.on (by simp; omega)]
      have hlt' : e.on < acc.length := by omega
      simpa [List.getD_eq_getElem?_getD, List.getElem?_append_left hlt'] using h3
    | succ j =>
      rw [ancs] at hk ⊢
      exact ancs_get r _ (i0 + 1) (by simp [hl]) he.2 j o (by simpa using hj) k (by rwa [show i0 + 1 + j = i0 + (j + 1) by omega])

/-- Every order. -/
theorem any_ok {n : Nat} (hn : ops.size = n) (an : List Nat) (hedge : ∀ (j : Nat) o, ops[j]? = some o → ∀ e ∈ o.after.toList, Region.binds .any e = true → e.on < j)
    (han : ∀ (j : Nat) o, ops[j]? = some o → ∀ k, (an.getD j 0).testBit k = true → ∃ e ∈ o.after.toList, Region.binds .any e = true ∧ (e.on = k ∨ (an.getD e.on 0).testBit k = true))
    {Tn : Nat → Option TV} {On : Nat → Option (List AV)} (hQx : ∀ a w g ob, FR C Tn On A g ob a w → Qx .normal a w) :
    ∀ (fuel : Nat) (R : List SI) (listed : Array Bool) (T : Nat → Option TV) (O : Nat → Option (List AV)) (g : Gh) (ob : Nat → Nat) (a : Act) (w : World), R.length = fuel → listed.size = n →
      (∀ i, i < n → (listed.getD i true = false ↔ ∃ x ∈ R, x.idx = i)) → (∀ x ∈ R, x.idx < n ∧ x.wf) → R.Pairwise (fun x y => x.idx < y.idx) →
      (∀ i o, ops[i]? = some o → listed.getD i true = true → ∀ e ∈ o.after.toList, Region.binds .any e = true → listed.getD e.on true = true) →
      (∀ x ∈ R, ∀ y ∈ R, x.idx < y.idx → (an.getD y.idx 0).testBit x.idx = true ∨ apartF x.fp y.fp = true) →
      Seqn P C ops A Qx R T O Tn On → FR C T O A g ob a w → wpAny P .any ops Qx fuel listed a w := by
  have getD_lt : ∀ (l : Array Bool) (i : Nat), l.size = n → i < n → l.getD i true = l.getD i false := fun l i hl hi => by
    have : i < l.size := by omega
    simp [this]
  have ready_mem : ∀ (l : Array Bool) (i : Nat), i ∈ Region.ready .any ops l ↔ i < n ∧ l.getD i true = false ∧ ∃ o, ops[i]? = some o ∧ ∀ e ∈ o.after.toList, Region.binds .any e = true → l.getD e.on false = true := fun l i => by
    unfold Region.ready
    rw [List.mem_filter, List.mem_range, hn]
    constructor
    · rintro ⟨h1, h2⟩
      rw [Bool.and_eq_true] at h2
      obtain ⟨h2, h3⟩ := h2
      refine ⟨h1, by simpa using h2, ?_⟩
      cases hq : ops[i]? with
      | none => rw [hq] at h3; simp at h3
      | some o =>
        rw [hq] at h3
        simp only [Option.map_some, Option.getD_some, Array.all_eq_true_iff_forall_mem] at h3
        refine ⟨o, rfl, fun e he hb => ?_⟩
        have := h3 e (by simpa using he)
        simpa [hb] using this
    · rintro ⟨h1, h2, o, h3, h4⟩
      refine ⟨h1, ?_⟩
      rw [Bool.and_eq_true]
      refine ⟨by simpa using h2, ?_⟩
      rw [h3]
      simp only [Option.map_some, Option.getD_some, Array.all_eq_true_iff_forall_mem]
      intro e he
      cases hb : Region.binds .any e with
      | false => rfl
      | true => simpa using h4 e (by simpa using he) hb
  intro fuel
  induction fuel with
  | zero =>
    intro R listed T O g ob a w hR hl hun hidx hsort hcl hchk hseq hF
    have hR0 : R = [] := List.eq_nil_of_length_eq_zero hR
    subst hR0
    obtain ⟨rfl, rfl⟩ := hseq
    refine ⟨List.eq_nil_iff_forall_not_mem.2 fun i hi => ?_, hQx a w g ob hF⟩
    obtain ⟨h1, h2, _⟩ := (ready_mem listed i).1 hi
    obtain ⟨x, hx, _⟩ := (hun i h1).1 h2
    simp at hx
  | succ fuel ih =>
    intro R listed T O g ob a w hR hl hun hidx hsort hcl hchk hseq hF
    refine ⟨fun hnil => ?_, fun i hi => ?_⟩
    · exfalso
      cases R with
      | nil => simp at hR
      | cons x R' =>
        obtain ⟨hx1, _⟩ := hidx x (by simp)
        have hx2 : ops[x.idx]? = some ops[x.idx] := Array.getElem?_eq_getElem (by omega)
        have : x.idx ∈ Region.ready .any ops listed := (ready_mem listed x.idx).2 ⟨hx1, (hun _ hx1).2 ⟨x, by simp, rfl⟩, _, hx2, fun e he hb => by
          have hlt := hedge _ _ hx2 e he hb
          rw [← getD_lt listed e.on hl (by omega)]
          cases hq : listed.getD e.on true with
          | true => rfl
          | false =>
            obtain ⟨y, hy, hy2⟩ := (hun e.on (by omega)).1 hq
            rcases List.mem_cons.1 hy with rfl | hy
            · omega
            · have := (List.pairwise_cons.1 hsort).1 y hy; omega⟩
        rw [hnil] at this
        simp at this
    · obtain ⟨h1, h2, o, h3, h4⟩ := (ready_mem listed i).1 hi
      obtain ⟨j, hj, hji⟩ := (hun i h1).1 h2
      obtain ⟨R1, R2, rfl⟩ := List.append_of_mem hj
      have hanc : ∀ (m : Nat), ∀ o', ops[m]? = some o' → (∀ e ∈ o'.after.toList, Region.binds .any e = true → listed.getD e.on true = true) → ∀ k, (an.getD m 0).testBit k = true → listed.getD k true = true := by
        intro m
        induction m using Nat.strongRecOn with
        | _ m ihm =>
          intro o' ho' he' k hk
          obtain ⟨e, k1, k2, k3⟩ := han m o' ho' k hk
          rcases k3 with k3 | k3
          · subst k3; exact he' e k1 k2
          · have hlt := hedge m o' ho' e k1 k2
            have hm : m < n := by rw [← hn]; exact (Array.getElem?_eq_some_iff.1 ho').1
            have hx2 : ops[e.on]? = some (ops[e.on]'(by omega)) := Array.getElem?_eq_getElem (by omega)
            exact ihm e.on hlt _ hx2 (hcl e.on _ hx2 (he' e k1 k2)) k k3
      have hR1 : ∀ x ∈ R1, x.wf ∧ apartF x.fp j.fp = true := fun x hx => by
        have hx' : x ∈ R1 ++ j :: R2 := by simp [hx]
        refine ⟨(hidx x hx').2, ?_⟩
        have hlt : x.idx < j.idx := (List.pairwise_append.1 hsort).2.2 x hx j (by simp)
        rcases hchk x hx' j hj hlt with hb | hb
        · exfalso
          have hxl : listed.getD x.idx true = false := (hun _ (hidx x hx').1).2 ⟨x, hx', rfl⟩
          have := hanc j.idx o (by rw [hji]; exact h3) (fun e he hb => by
            have hlt := hedge i o h3 e he hb
            rw [getD_lt listed e.on hl (by omega)]
            exact h4 e he hb) x.idx hb
          rw [this] at hxl; cases hxl
        · exact hb
      obtain ⟨k1, k2⟩ := Seqn.take (hidx j hj).2 R1 R2 hseq hR1
      have hset : ∀ m, (listed.setIfInBounds i true).getD m true = if m = i then true else listed.getD m true := fun m => by
        have his : i < listed.size := by omega
        simp only [Array.getD_eq_getD_getElem?, Array.getElem?_setIfInBounds]
        by_cases e : m = i
        · subst e; simp [his]
        · simp [Ne.symm e, e]
      have hsub : ∀ x, x ∈ R1 ++ R2 → x ∈ R1 ++ j :: R2 := fun x hx => by
        rcases List.mem_append.1 hx with hx | hx
        · simp [hx]
        · simp [hx]
      have hne : ∀ x, x ∈ R1 ++ R2 → x.idx ≠ i := fun x hx e => by
        rcases List.mem_append.1 hx with hx | hx
        · have := (List.pairwise_append.1 hsort).2.2 x hx j (by simp); omega
        · have := (List.pairwise_cons.1 (List.pairwise_append.1 hsort).2.1).1 x hx; omega
      rw [← hji]
      refine k1 T O ⟨fun _ _ => rfl, fun _ _ => rfl⟩ g ob a w hF _ (fun a' w' g' ob' hF' => ?_)
      rw [hji]
      refine ih (R1 ++ R2) _ _ _ g' ob' a' w' (by simp at hR ⊢; omega) (by simp [hl]) (fun m hm => ?_) (fun x hx => hidx x (hsub x hx)) ?_ (fun m o' ho' hm e he hb => ?_) (fun x hx y hy => hchk x (hsub x hx) y (hsub y hy)) k2 hF'
      · rw [hset]
        by_cases e : m = i
        · simp only [e, if_true]
          constructor
          · intro h; cases h
          · rintro ⟨x, hx, hx2⟩; exact absurd hx2 (hne x hx)
        · rw [if_neg e, hun m hm]
          constructor
          · rintro ⟨x, hx, hx2⟩
            refine ⟨x, ?_, hx2⟩
            rcases List.mem_append.1 hx with hx | hx
            · simp [hx]
            · rcases List.mem_cons.1 hx with rfl | hx
              · exact absurd (hx2.symm.trans hji) e
              · simp [hx]
          · rintro ⟨x, hx, hx2⟩; exact ⟨x, hsub x hx, hx2⟩
      · rw [List.pairwise_append] at hsort ⊢
        exact ⟨hsort.1, (List.pairwise_cons.1 hsort.2.1).2, fun x hx y hy => hsort.2.2 x hx y (List.mem_cons_of_mem _ hy)⟩
      · rw [hset] at hm ⊢
        by_cases e2 : e.on = i
        · rw [if_pos e2]
        · rw [if_neg e2]
          by_cases e1 : m = i
          · subst e1
            rw [h3] at ho'
            injection ho' with ho'
            subst ho'
            have hlt := hedge m o h3 e he hb
            rw [getD_lt listed e.on hl (by omega)]
            exact h4 e he hb
          · rw [if_neg e1] at hm
            exact hcl m o' ho' hm e he hb
end
end Ab
end Go.Proofs.YtpmigkbcldffeaaGreatDoor

/- Regions whose order is drawn, worked off. -/
namespace Go.Proofs.YtpmigkbcldffeaaGreatDoor
namespace Ab
section
variable {P : Program} {Ty : TypeId → Option TyI} {C : Cx} {ops : Array Oper} {A : AO} {Qx : Exit → Act → World → Prop}

theorem wantB_det {T : Nat → Option TV} {o : Oper} {K : Bool → Prop} (h : wantB ops.toList T o K) : ∃ b, K b ∧ ∀ T' O' g ob a w, (∀ t x, T t = some x → T' t = some x) → FR C T' O' A g ob a w → Region.wanted o (yielded ops a.tmps) = b := by
  have mk : ∀ b, (wantB ops.toList T o fun c => c = b) → ∀ T' O' g ob a w, (∀ t x, T t = some x → T' t = some x) → FR C T' O' A g ob a w → Region.wanted o (yielded ops a.tmps) = b :=
    fun b hb T' O' g ob a w hT hF => hF.wanted hT hb
  have key : ∃ b, K b ∧ wantB ops.toList T o fun c => c = b := by
    unfold wantB at h ⊢
    split at h
    · exact ⟨true, h, rfl⟩
    · split at h
      · split at h
        · split at h
          · exact ⟨_, h, rfl⟩
          · exact ⟨_, h, rfl⟩
          · exact ⟨_, h, rfl⟩
          · exact h.elim
        · exact h.elim
      · exact h.elim
  obtain ⟨b, h1, h2⟩ := key
  exact ⟨b, h1, mk b h2⟩

theorem aD_seq (ty : TyOk P Ty) {K : TM → OW → AO → Prop} : ∀ (l : List Oper) (i : Nat) (tr : List FP), (∀ j, l[j]? = ops[i + j]?) → ∀ {tm : TM} {own : OW}, aD P Ty C.N ops.toList l tr K tm own A →
    ∃ (R : List SI) (tm' : TM) (own' : OW), chk ops.toList (tr ++ R.map (·.fp)) = true ∧ K tm' own' A ∧ R.length = l.length ∧ (∀ k x, R[k]? = some x → x.idx = i + k ∧ x.wf) ∧ Seqn P C ops A Qx R (look tm) (own? own) (look tm') (own? own')
  | [], i, tr, hl, tm, own, h => by
    obtain ⟨h1, h2⟩ := (show NK _ _ from h).out
    exact ⟨[], tm, own, by simpa using h1, h2, rfl, fun k x hx => by simp at hx, rfl, rfl⟩
  | o :: rest, i, tr, hl, tm, own, h => by
    have ho : ops[i]? = some o := by have := hl 0; simpa using this.symm
    have hrest : ∀ j, rest[j]? = ops[i + 1 + j]? := fun j => by have := hl (j + 1); simpa [Nat.add_assoc, Nat.add_comm 1 j] using this
    rw [aD_cons] at h
    obtain ⟨b, h, hwant⟩ := wantB_det (C := C) (A := A) h
    split at h
    · rename_i hdst
      have hd : ∀ t, o.dst = some t → t < C.N := fun t e => by
        unfold dstOk at hdst
        rw [e] at hdst
        have h2 : Nat.ble (t + 1) C.N = true := hdst
        exact Nat.le_of_ble_eq_true h2
      have hsubT : ∀ {T' : Nat → Option TV}, (∀ t, t ∈ rdT ops.toList o → look tm t = T' t) → ∀ t x, restr (rdT ops.toList o) (look tm) t = some x → T' t = some x := fun {T'} hag t x hx => by
        obtain ⟨h1, h2⟩ := restr_sub hx
        rw [← hag t h2]; exact h1
      split at h
      · -- carried out
        have hnx : restr (rdO (look tm) o own.length) (own? own) own.length = none := by
          cases hq : restr (rdO (look tm) o own.length) (own? own) own.length with
          | none => rfl
          | some x => have := (restr_sub hq).1; rw [own?_eq] at this; simp at this
        obtain ⟨v, eff, hK, hE, hR⟩ := aop_ok (C := C) ty hnx h
        have step : ∀ (wO : Option Nat), (∀ A', eff ≠ .out A') → (∀ k cs, eff = .own k cs → wO = some k ∧ k ∈ rdO (look tm) o own.length) →
            SI.ok P C ops A Qx ⟨i, ⟨rdT ops.toList o, o.dst, rdO (look tm) o own.length, wO⟩, v, eff⟩ (look tm) (own? own) := fun wO hno hw T' O' hag g ob a w hF K' hK' => by
          have hT := hsubT hag.1
          have hO : ∀ k x, restr (rdO (look tm) o own.length) (own? own) k = some x → O' k = some x := fun k x hx => by
            obtain ⟨h1, h2⟩ := restr_sub hx
            rw [← hag.2 k h2]; exact h1
          have hw' := hwant T' O' g ob a w hT hF
          unfold wpOp
          simp only [ho, hw', if_true]
          refine .inl (Oper.wp_mono ?_ (hR T' O' A hT hO (.refl _) (fun _ _ => rfl) (fun k cs he hn => ?_) hd g ob a w hF _))
          · rintro a' w' ⟨g', ob', hf⟩
            refine hK' a' w' g' ob' ?_
            have hA : eff.A A = A := by cases he : eff with | nop => rfl | own _ _ => rfl | out A' => exact absurd he (hno A')
            rw [hA] at hf
            exact hf
          · obtain ⟨_, hm⟩ := hw k cs he
            rw [← hag.2 k hm]
            unfold restr at hn
            rw [(memb_iff _ _).2 hm] at hn
            exact hn
        split at hK
        · obtain ⟨R, tm', own', h1, h2, h3, h4, h5⟩ := aD_seq ty rest (i + 1) _ hrest hK
          refine ⟨⟨i, _, v, .nop⟩ :: R, tm', own', by simpa using h1, h2, by simp [h3], fun k x hx => ?_, step none (fun _ h => (by cases h)) (fun _ _ h => (by cases h)), ?_⟩
          · cases k with
            | zero => simp at hx; subst hx; exact ⟨rfl, ⟨fun _ _ h => (by cases h), fun _ h => (by cases h)⟩⟩
            | succ k => have := h4 k x (by simpa using hx); exact ⟨by omega, this.2⟩
          · rw [look_put] at h5
            exact h5
        · rename_i k cs
          split at hK
          · rename_i hm
            have hm := (memb_iff _ _).1 hm
            obtain ⟨R, tm', own', h1, h2, h3, h4, h5⟩ := aD_seq ty rest (i + 1) _ hrest hK
            refine ⟨⟨i, _, v, .own k cs⟩ :: R, tm', own', by simpa using h1, h2, by simp [h3], fun k' x hx => ?_, step (some k) (fun _ h => by cases h) (fun k' cs' h => by cases h; exact ⟨rfl, hm⟩), ?_⟩
            · cases k' with
              | zero => simp at hx; subst hx; exact ⟨rfl, ⟨fun _ _ h => (by cases h; rfl), fun _ h => (by cases h)⟩⟩
              | succ k' => have := h4 k' x (by simpa using hx); exact ⟨by omega, this.2⟩
            · have e := effO_get own (.own k cs) (by
                rcases hE with hE | hE
                · exact .inl (fun hn => hE (by
                    unfold restr
                    rw [(memb_iff _ _).2 hm]; exact hn))
                · exact .inr hE)
              simp only [effO] at e
              rw [look_put, e] at h5
              exact h5
          · exact hK.elim
        · exact hK.elim
      · -- passed over
        obtain ⟨R, tm', own', h1, h2, h3, h4, h5⟩ := aD_seq ty rest (i + 1) _ hrest h
        refine ⟨⟨i, ⟨rdT ops.toList o, o.dst, [], none⟩, undefTV, .nop⟩ :: R, tm', own', by simpa using h1, h2, by simp [h3], fun k x hx => ?_, fun T' O' hag g ob a w hF K' hK' => ?_, ?_⟩
        · cases k with
          | zero => simp at hx; subst hx; exact ⟨rfl, ⟨fun _ _ h => (by cases h), fun _ h => (by cases h)⟩⟩
          | succ k => have := h4 k x (by simpa using hx); exact ⟨by omega, this.2⟩
        · have hw' := hwant T' O' g ob a w (hsubT hag.1) hF
          unfold wpOp
          simp only [ho, hw', Bool.false_eq_true, if_false]
          exact hK' _ _ g ob (hF.put o.dst hd (v := undefTV) (.raw _))
        · rw [look_put] at h5
          exact h5
    · exact h.elim

theorem chk1_get {an : Nat} {fp : FP} : ∀ (l : List FP) (j : Nat), chk1 an fp j l = true → ∀ (p : Nat) x, l[p]? = some x → an.testBit (j + p) = true ∨ apartF x fp = true
  | [], j, _, p, x, h => by simp at h
  | y :: r, j, h, p, x, hp => by
    unfold chk1 at h
    rw [Bool.and_eq_true] at h
    cases p with
    | zero =>
      simp at hp; subst hp
      have := h.1
      rw [Bool.or_eq_true] at this
      simpa using this
    | succ p =>
      have := chk1_get r (j + 1) h.2 p x (by simpa using hp)
      rwa [show j + 1 + p = j + (p + 1) by omega] at this
theorem chkA_get {an : List Nat} : ∀ (l done : List FP) (i : Nat), done.length = i → chkA an done i l = true → ∀ (p q : Nat) x y, (done ++ l)[p]? = some x → (done ++ l)[q]? = some y → p < q → i ≤ q → (an.getD q 0).testBit p = true ∨ apartF x y = true
  | [], done, i, hd, _, p, q, x, y, _, hy, _, hq => by
    have := (List.getElem?_eq_some_iff.1 hy).1
    simp at this; omega
  | fp :: r, done, i, hd, h, p, q, x, y, hx, hy, hpq, hq => by
    unfold chkA at h
    rw [Bool.and_eq_true] at h
    by_cases e : q = i
    · subst e
      have hy' : fp = y := by rw [List.getElem?_append_right (by omega), hd] at hy; simpa using hy
      subst hy'
      rw [List.getElem?_append_left (by omega)] at hx
      have := chk1_get done 0 h.1 p x hx
      simpa using this
    · exact chkA_get r (done ++ [fp]) (i + 1) (by simp [hd]) h.2 p q x y (by simpa using hx) (by simpa using hy) hpq (by omega)

theorem aD_ok (ty : TyOk P Ty) (hm : P.follows .mixedOrders = true) : DOk P C (fun l K => aD P Ty C.N l l [] K) := by
  intro id ops K tm own A g ob a w h hF
  refine wp_region_any hm ?_
  have hFd : FR C (look tm) (own? own) A g ob a { w with drawn := w.drawn + 1 } := by
    have hId : Inv A g w.drew := ⟨hF.inv.sealed, fun p cs hp => hF.inv.rows p cs hp, fun p s' e'' hp => hF.inv.toks p s' e'' hp, fun p es hp => hF.inv.maps p es hp, hF.inv.apart, hF.inv.cps, fun p t hp => hF.inv.tys p t hp⟩
    have hSt : St A g w A g w.drew := ⟨.refl g, rfl, rfl, rfl, Nat.le_refl _, fun _ _ _ => rfl, fun _ h => .inl h, fun _ _ _ _ => rfl⟩
    exact hF.step hId hSt
  obtain ⟨R, tm', own', h1, h2, h3, h4, h5⟩ := aD_seq (C := C) (Qx := Post C K) ty ops.toList 0 [] (fun j => by simp) h
  simp only [List.nil_append] at h1
  unfold chk at h1
  rw [Bool.and_eq_true] at h1
  obtain ⟨he, hc⟩ := h1
  have hlen : R.length = ops.size := by rw [h3]; simp
  have hidx : ∀ x ∈ R, ∃ k, R[k]? = some x ∧ x.idx = k := fun x hx => by
    obtain ⟨k, hk, rfl⟩ := List.mem_iff_getElem.1 hx
    have := h4 k _ (List.getElem?_eq_getElem hk)
    exact ⟨k, List.getElem?_eq_getElem hk, by omega⟩
  refine any_ok (C := C) (A := A) (Qx := Post C K) rfl (ancs ops.toList []) (fun j o ho e hee hb => ?_) (fun j o ho k hk => ?_) (fun a w g ob hF => ⟨tm', own', A, g, ob, h2, hF⟩) ops.size R _ _ _ g ob a _ hlen (by simp) (fun i hi => ?_) (fun x hx => ?_) ?_ (fun i o ho hl => ?_) (fun x hx y hy hlt => ?_) h5 hFd
  · have := edgesAll_get ops.toList 0 he j o (by simpa using ho)
    rw [Nat.zero_add] at this
    exact edgesOk_mem this e hee hb
  · have := ancs_get ops.toList [] 0 rfl he j o (by simpa using ho) k (by rwa [Nat.zero_add])
    exact this
  · simp only [Array.getD_eq_getD_getElem?, Array.getElem?_replicate, hi, if_true, Option.getD_some, true_iff]
    have hi' : i < R.length := by omega
    exact ⟨R[i], List.getElem_mem hi', by have := (h4 i _ (List.getElem?_eq_getElem hi')).1; omega⟩
  · obtain ⟨k, hk, hk2⟩ := hidx x hx
    exact ⟨by have := (List.getElem?_eq_some_iff.1 hk).1; omega, (h4 k x hk).2⟩
  · rw [List.pairwise_iff_getElem]
    intro p q hp hq hpq
    have e1 := (h4 p _ (List.getElem?_eq_getElem hp)).1
    have e2 := (h4 q _ (List.getElem?_eq_getElem hq)).1
    omega
  · exfalso
    have hi : i < ops.size := (Array.getElem?_eq_some_iff.1 ho).1
    simp [hi] at hl
  · obtain ⟨p, hp, hp2⟩ := hidx x hx
    obtain ⟨q, hq, hq2⟩ := hidx y hy
    rw [hp2, hq2]
    exact chkA_get (R.map (·.fp)) [] 0 rfl hc p q x.fp y.fp (by simp [hp]) (by simp [hq]) (by omega) (Nat.zero_le _)
end
end Ab
end Go.Proofs.YtpmigkbcldffeaaGreatDoor

/- The types of a program, as the abstract machine asks them. -/
namespace Go.Proofs.YtpmigkbcldffeaaGreatDoor
namespace Ab

def zAV : Value → AV
  | .agg cs => .agg (cs.toList.map constAV)
  | v => constAV v
def oneAll : List Value → Bool
  | [] => true
  | v :: r => v.oneCell' && oneAll r
def zOk : Value → Bool
  | .agg cs => oneAll cs.toList
  | _ => true
theorem oneAll_mem : ∀ {l : List Value}, oneAll l = true → ∀ v ∈ l, v.oneCell' = true
  | [], _, v, h => by simp at h
  | x :: r, h, v, hv => by
    unfold oneAll at h
    rw [Bool.and_eq_true] at h
    rcases List.mem_cons.1 hv with rfl | hv
    · exact h.1
    · exact oneAll_mem h.2 v hv
theorem zAV_ne (v : Value) (h : ∀ cs, v ≠ .agg cs) : zAV v = constAV v := by
  cases v <;> first | rfl | exact absurd rfl (h _)
theorem zAV_ok (g : Gh) (v : Value) (h : zOk v = true) : VR g (zAV v) v := by
  cases v with
  | agg cs =>
    have := VR.mk_agg (g := g) (cells := cs.toList.map constAV) (L := cs.toList) ⟨⟨by simp, fun j h1 h2 => by simpa using constAV_ok g _⟩, oneAll_mem h⟩
    simpa [zAV] using this
  | _ => rw [zAV_ne _ (by intro cs h; cases h)]; exact constAV_ok g _

/-- Of a type: its shape, its cells and bytes, its zero value. -/
def tyIs (P : Program) (t : TypeId) (d : TypeDesc) (size bytes : Nat) (z : Value) : Prop :=
  P.underlying t = some d ∧ (P.info? t).map (fun i => (i.size, i.bytes, i.zero)) = some (size, bytes, some z)

inductive Tr where
  | leaf
  | node (l : Tr) (t : Nat) (i : TyI) (r : Tr)
def Tr.find : Tr → Nat → Option TyI
  | .leaf, _ => none
  | .node l t i r, n => match Nat.beq n t with
    | true => some i
    | false => match Nat.blt n t with
      | true => l.find n
      | false => r.find n
def Tr.all (p : Nat → TyI → Prop) : Tr → Prop
  | .leaf => True
  | .node l t i r => l.all p ∧ p t i ∧ r.all p
theorem Tr.find_all {p : Nat → TyI → Prop} : ∀ {tr : Tr}, tr.all p → ∀ n i, tr.find n = some i → p n i
  | .leaf, _, n, i, h => by cases h
  | .node l t j r, ha, n, i, h => by
    obtain ⟨h1, h2, h3⟩ := ha
    unfold Tr.find at h
    split at h
    · rename_i hb
      injection h with h
      subst h
      rw [Nat.eq_of_beq_eq_true hb]; exact h2
    · split at h
      · exact find_all h1 n i h
      · exact find_all h3 n i h

/-- What is to be shown of a type. -/
structure TyOne (P : Program) (t : TypeId) (i : TyI) : Prop where
  u : P.underlying t = some i.d
  inf : ∃ inf, P.info? t = some inf ∧ inf.size = i.size ∧ inf.bytes = i.bytes ∧ ∃ z, inf.zero = some z ∧ ∀ g, VR g i.zv z
  eq : i.eq ≠ [] → P.eqGuardType P.depth t = false ∧
    ∀ g xs ys X Y b w, cseq i.eq xs ys = some b → CL g xs X → CL g ys Y → (Op.equal t (.agg X.toArray) (.agg Y.toArray)).run P w = .ok b w
theorem TyOk.of {P : Program} {tr : Tr} (h : tr.all (TyOne P)) : TyOk P tr.find :=
  ⟨fun t i e => (Tr.find_all h t i e).u, fun t i e => (Tr.find_all h t i e).inf, fun t i e => (Tr.find_all h t i e).eq⟩
theorem TyOne.plain {P : Program} {t : TypeId} {i : TyI} {z : Value} (h : tyIs P t i.d i.size i.bytes z) (hz : zAV z = i.zv) (ho : zOk z = true) (he : i.eq = []) : TyOne P t i := by
  obtain ⟨h1, h2⟩ := h
  refine ⟨h1, ?_, fun h => absurd he h⟩
  cases hq : P.info? t with
  | none => rw [hq] at h2; cases h2
  | some inf =>
    rw [hq] at h2
    simp only [Option.map_some, Option.some.injEq, Prod.mk.injEq] at h2
    exact ⟨inf, rfl, h2.1, h2.2.1, z, h2.2.2, fun g => by rw [← hz]; exact zAV_ok g z ho⟩
/-- A type whose values are compared cell by cell. -/
def basicK (P : Program) (t : TypeId) : Nat → Prop
  | 0 => ∃ k, P.underlying t = some (.int k)
  | 1 => P.underlying t = some .bool
  | 2 => P.underlying t = some .string
  | _ => False
theorem basic_agg {P : Program} {t : TypeId} {k : Nat} (h : basicK P t k) (w : World) : (isAgg t).run P w = .ok false w := by
  unfold basicK at h
  split at h
  · obtain ⟨q, h⟩ := h; simp [isAgg, run_underlying h]
  · simp [isAgg, run_underlying h]
  · simp [isAgg, run_underlying h]
  · exact h.elim
theorem kind_eq {k k' : IntKind} (h : kindB k k' = true) : k = k' := by revert h; cases k <;> cases k' <;> simp [kindB]
theorem ceq_run {P : Program} {t : TypeId} {k : Nat} (hb : basicK P t k) {x y : AV} {b : Bool} (h : ceq k x y = some b) {g : Gh} {X Y : Value} (hX : VR g x X) (hY : VR g y Y) (d : Nat) (w : World) : (Op.equalIn (d + 1) t X Y).run P w = .ok b w := by
  unfold ceq at h
  split at h
  · split at h
    · rename_i hk
      injection h with h
      subst h
      cases hX; cases hY
      obtain ⟨q, hb⟩ := hb
      have := kind_eq hk
      subst this
      simp [Op.equalIn, run_underlying hb]
    · cases h
  · injection h with h
    subst h
    cases hX; cases hY
    have hb : P.underlying t = some .bool := hb
    simp [Op.equalIn, run_underlying hb]
  · injection h with h
    subst h
    cases hX with
    | str _ bx hx => cases hY with
      | str _ b' hy =>
        have hb : P.underlying t = some .string := hb
        have e : (bx == b') = (bx.data.toList == b'.data.toList) := by rw [beq_toListBytes, ByteArray.toList_eq, ByteArray.toList_eq]
        simp [Op.equalIn, run_underlying hb, e, hx, hy]
  · cases h
theorem part_one {P : Program} {t : TypeId} {k : Nat} (hb : basicK P t k) {L : List Value} {j : Nat} {V : Value} (h : L[j]? = some V) (w : World) : (Go.part t L.toArray j).run P w = .ok V w := by
  simp [Go.part, basic_agg hb, h]

/-- The fields of a struct, each of one cell, in order. -/
def flatFs (P : Program) : Nat → List Field → List Nat → Prop
  | _, [], [] => True
  | j, f :: fs, k :: ks => f.offset = j ∧ f.name ≠ "_" ∧ basicK P f.type k ∧ flatFs P (j + 1) fs ks
  | _, _, _ => False
theorem fields_run {P : Program} {d : Nat} {g : Gh} {X Y : List Value} : ∀ (fs : List Field) (ks : List Nat) (j : Nat) (xs ys : List AV) (b : Bool), flatFs P j fs ks → cseq ks xs ys = some b → VL g xs (X.drop j) → VL g ys (Y.drop j) → ∀ w, (Op.eqFields (d + 1) X.toArray Y.toArray fs).run P w = .ok b w
  | [], [], j, xs, ys, b, _, h, hX, hY, w => by
    cases xs <;> cases ys <;> simp [cseq] at h
    subst h; rfl
  | f :: fs, k :: ks, j, xs, ys, b, hf, h, hX, hY, w => by
    obtain ⟨h1, h2, h3, h4⟩ := hf
    cases xs with
    | nil => simp [cseq] at h
    | cons x xs => cases ys with
      | nil => simp [cseq] at h
      | cons y ys =>
        unfold cseq at h
        split at h
        · rename_i p hp
          split at h
          · rename_i q hq
            injection h with h
            subst h
            obtain ⟨A, X', e1, a1, a2⟩ := hX.inv_cons
            obtain ⟨B, Y', e2, b1, b2⟩ := hY.inv_cons
            have hA : X[j]? = some A := by have := congrArg (fun l : List Value => l[0]?) e1; simpa using this
            have hB : Y[j]? = some B := by have := congrArg (fun l : List Value => l[0]?) e2; simpa using this
            have dX : X.drop (j + 1) = X' := by have := congrArg List.tail e1; simpa [List.tail_drop] using this
            have dY : Y.drop (j + 1) = Y' := by have := congrArg List.tail e2; simpa [List.tail_drop] using this
            have ih := fields_run (P := P) (d := d) (X := X) (Y := Y) fs ks (j + 1) xs ys q h4 hq (by rw [dX]; exact a2) (by rw [dY]; exact b2) w
            subst h1
            simp only [Op.eqFields, ne_eq, h2, not_false_eq_true, if_true, Sem.run_bind, part_one h3 hA, part_one h3 hB, Result.andThen_ok, ceq_run h3 hp a1 b1 d w]
            cases p
            · simp
            · simpa using ih
          · cases h
        · cases h
  | [], _ :: _, _, _, _, _, hf, _, _, _, _ => hf.elim
  | _ :: _, [], _, _, _, _, hf, _, _, _, _ => hf.elim
theorem TyOne.flat {P : Program} {t : TypeId} {i : TyI} {z : Value} {fs : Array Field} (h : tyIs P t i.d i.size i.bytes z) (hz : zAV z = i.zv) (ho : zOk z = true) (hd : P.underlying t = some (.struct fs)) (hs : P.stoodInHeld t = false) (hg : P.eqGuardType P.depth t = false)
    (hf : flatFs P 0 fs.toList i.eq) : TyOne P t i := by
  obtain ⟨h1, h2⟩ := h
  refine ⟨h1, ?_, fun _ => ⟨hg, fun g xs ys X Y b w hb hX hY => ?_⟩⟩
  · cases hq : P.info? t with
    | none => rw [hq] at h2; cases h2
    | some inf =>
      rw [hq] at h2
      simp only [Option.map_some, Option.some.injEq, Prod.mk.injEq] at h2
      exact ⟨inf, rfl, h2.1, h2.2.1, z, h2.2.2, fun g => by rw [← hz]; exact zAV_ok g z ho⟩
  · obtain ⟨n, hn⟩ : ∃ n, Op.maxDepth = n + 1 + 1 := ⟨9998, rfl⟩
    unfold Op.equal
    rw [hn]
    have hfs : P.fieldsOf t = fs := by unfold Program.fieldsOf; rw [hd]
    rw [run_equalIn_struct w (n + 1) t _ _ (by rw [hfs]; exact hd) hs, hfs]
    exact fields_run fs.toList i.eq 0 xs ys b hf hb (by simpa using hX.toVL) (by simpa using hY.toVL) w

theorem items_run {P : Program} {d : Nat} {g : Gh} {X Y : List Value} {e : TypeId} {k : Nat} (hb : basicK P e k) (hc : P.cellsOf e = 1) : ∀ (n : Nat) (j : Nat) (xs ys : List AV) (b : Bool), cseq (List.replicate n k) xs ys = some b → VL g xs (X.drop j) → VL g ys (Y.drop j) → ∀ w,
    (Op.eqItems (d + 1) e (P.cellsOf e) X.toArray Y.toArray (List.range' j n)).run P w = .ok b w
  | 0, j, xs, ys, b, h, hX, hY, w => by
    cases xs <;> cases ys <;> simp [cseq] at h
    subst h; rfl
  | n + 1, j, xs, ys, b, h, hX, hY, w => by
    cases xs with
    | nil => simp [cseq, List.replicate_succ] at h
    | cons x xs => cases ys with
      | nil => simp [cseq, List.replicate_succ] at h
      | cons y ys =>
        rw [List.replicate_succ] at h
        unfold cseq at h
        split at h
        · rename_i p hp
          split at h
          · rename_i q hq
            injection h with h
            subst h
            obtain ⟨A, X', e1, a1, a2⟩ := hX.inv_cons
            obtain ⟨B, Y', e2, b1, b2⟩ := hY.inv_cons
            have hA : X[j]? = some A := by have := congrArg (fun l : List Value => l[0]?) e1; simpa using this
            have hB : Y[j]? = some B := by have := congrArg (fun l : List Value => l[0]?) e2; simpa using this
            have dX : X.drop (j + 1) = X' := by have := congrArg List.tail e1; simpa [List.tail_drop] using this
            have dY : Y.drop (j + 1) = Y' := by have := congrArg List.tail e2; simpa [List.tail_drop] using this
            have ih := items_run (P := P) (d := d) (X := X) (Y := Y) hb hc n (j + 1) xs ys q hq (by rw [dX]; exact a2) (by rw [dY]; exact b2) w
            rw [hc] at ih ⊢
            simp only [List.range'_succ, Op.eqItems, Sem.run_bind, Nat.mul_one, part_one hb hA, part_one hb hB, Result.andThen_ok, ceq_run hb hp a1 b1 d w]
            cases p
            · simp
            · simpa using ih
          · cases h
        · cases h
theorem TyOne.arr {P : Program} {t e : TypeId} {i : TyI} {z : Value} {n k : Nat} {ie : TypeInfo} (h : tyIs P t i.d i.size i.bytes z) (hz : zAV z = i.zv) (ho : zOk z = true) (hd : P.underlying t = some (.array n e)) (hi : P.info? e = some ie) (hc : P.cellsOf e = 1) (hg : P.eqGuardType P.depth t = false)
    (hb : basicK P e k) (hk : i.eq = List.replicate n k) : TyOne P t i := by
  obtain ⟨h1, h2⟩ := h
  refine ⟨h1, ?_, fun _ => ⟨hg, fun g xs ys X Y b w hb' hX hY => ?_⟩⟩
  · cases hq : P.info? t with
    | none => rw [hq] at h2; cases h2
    | some inf =>
      rw [hq] at h2
      simp only [Option.map_some, Option.some.injEq, Prod.mk.injEq] at h2
      exact ⟨inf, rfl, h2.1, h2.2.1, z, h2.2.2, fun g => by rw [← hz]; exact zAV_ok g z ho⟩
  · obtain ⟨m, hm⟩ : ∃ m, Op.maxDepth = m + 1 + 1 := ⟨9998, rfl⟩
    unfold Op.equal
    rw [hm, run_equalIn_array w (m + 1) _ _ hd hi, List.range_eq_range']
    rw [hk] at hb'
    exact items_run hb hc n 0 xs ys b hb' (by simpa using hX.toVL) (by simpa using hY.toVL) w
end Ab
end Go.Proofs.YtpmigkbcldffeaaGreatDoor

/- Regions whose order is drawn, with a chain of operations that change what lies outside. -/
namespace Go.Proofs.YtpmigkbcldffeaaGreatDoor
namespace Ab

def AO.nil : AO := ⟨fun _ => none, fun _ => none, fun _ => none, fun _ => none⟩
theorem nil_sub {A : AO} : AO.nil.sub A := ⟨fun _ _ h => (by cases h), fun _ _ h => (by cases h)⟩
def usesGp (T : Nat → Option TV) : List Nat → Bool
  | [] => false
  | t :: r => match T t with
    | some (.v (.gp _ _)) => true
    | some (.v (.gs _ _ _ _)) => true
    | some (.v (.map _)) => true
    | _ => usesGp T r
/-- Does it look at memory that may change? -/
def usesA (T : Nat → Option TV) (op : Op) : Bool :=
  match op with
  | .move _ | .assign _ | .nilCheck _ | .fieldAddr _ _ _ | .makeInterface _ _ | .extract _ _ | .makeFunc _ _ _ | .buildSlice _ _ _ | .build _ _ => false
  | op => usesGp T (opT op)
def selA (u : Bool) (A : AO) : AO :=
  match u with
  | true => A
  | false => .nil
/-- Operations that change what lies outside. -/
def isEff (ef : List Nat) (o : Oper) : Bool :=
  match o.op with
  | .call c => match c.callee with
    | .value (.func f) => memb ef f
    | .builtin .append => true
    | _ => false
  | .store _ _ _ => memb ef 1000000
  | .mapUpdate _ _ _ _ | .insert _ _ _ _ => memb ef 1000001
  | _ => false
def effM (ef : List Nat) : Nat → List Oper → Nat
  | _, [] => 0
  | i, o :: r => match isEff ef o with
    | true => 2 ^ i ||| effM ef (i + 1) r
    | false => effM ef (i + 1) r
/-- It is such an operation or stands behind one. -/
def isTl (em : Nat) (an : List Nat) (i : Nat) : Bool := Nat.testBit em i || !(Nat.beq (Nat.land (an.getD i 0) em) 0)

structure FQ where
  i : Nat
  fp : FP
  rA : Bool
structure TQ where
  i : Nat
  fp : FP
def tls (em : Nat) (an : List Nat) (l0 : List Oper) : Nat → List Oper → List TQ
  | _, [] => []
  | i, o :: r => match isTl em an i with
    | true => ⟨i, ⟨rdT l0 o, o.dst, [], none⟩⟩ :: tls em an l0 (i + 1) r
    | false => tls em an l0 (i + 1) r
def chkFF (an : List Nat) : List FQ → Bool
  | [] => true
  | f :: r => (r.all fun y => (an.getD y.i 0).testBit f.i || apartF f.fp y.fp) && chkFF an r
def chkFT (an : List Nat) (tr : List FQ) (tz : List TQ) : Bool := tr.all fun f => tz.all fun z => (an.getD z.i 0).testBit f.i || (apartF f.fp z.fp && !f.rA)
def chkTT (an : List Nat) : List TQ → Bool
  | [] => true
  | z :: r => (r.all fun y => (an.getD y.i 0).testBit z.i) && chkTT an r
def chk2 (l0 : List Oper) (an : List Nat) (tr : List FQ) (tz : List TQ) : Bool := edgesAll 0 l0 && (chkFF an tr && (chkFT an tr tz && chkTT an tz))

/-- The chain, in order. -/
noncomputable def aT (P : Program) (Ty : TypeId → Option TyI) (N : Nat) (em : Nat) (an : List Nat) (l0 l : List Oper) : Nat → (TM → OW → AO → Prop) → TM → OW → AO → Prop :=
  List.rec (motive := fun _ => Nat → (TM → OW → AO → Prop) → TM → OW → AO → Prop) (fun _ K => K)
    (fun o _ ih i K tm own A => match isTl em an i with
      | false => ih (i + 1) K tm own A
      | true => wantB l0 (restr (rdT l0 o) (look tm)) o fun wn => match dstOk N o with
        | true => match wn with
          | true => nop P Ty [] own.length (restr (rdT l0 o) (look tm)) (fun _ => none) A o fun v eff => match eff with
            | .nop => ih (i + 1) K (putT tm o.dst v) own A
            | .own _ _ => False
            | .out A' => ih (i + 1) K (putT tm o.dst v) own A'
          | false => ih (i + 1) K (putT tm o.dst undefTV) own A
        | false => False) l
/-- The others, in the text's order; then the chain. -/
noncomputable def aF (P : Program) (Ty : TypeId → Option TyI) (N : Nat) (em : Nat) (an : List Nat) (l0 l : List Oper) : Nat → List FQ → (TM → OW → AO → Prop) → TM → OW → AO → Prop :=
  List.rec (motive := fun _ => Nat → List FQ → (TM → OW → AO → Prop) → TM → OW → AO → Prop)
    (fun _ tr K tm own A => NK (chk2 l0 an tr (tls em an l0 0 l0) = true) (aT P Ty N em an l0 l0 0 K tm own A))
    (fun o _ ih i tr K tm own A => match isTl em an i with
      | true => ih (i + 1) tr K tm own A
      | false => wantB l0 (restr (rdT l0 o) (look tm)) o fun wn => match dstOk N o with
        | true => match wn with
          | true => aop P Ty own.length (restr (rdT l0 o) (look tm)) (restr (rdO (look tm) o own.length) (own? own)) (selA (usesA (look tm) o.op) A) o.op fun v eff => match eff with
            | .nop => ih (i + 1) (tr ++ [⟨i, ⟨rdT l0 o, o.dst, rdO (look tm) o own.length, none⟩, usesA (look tm) o.op⟩]) K (putT tm o.dst v) own A
            | .own k cs => match memb (rdO (look tm) o own.length) k with
              | true => ih (i + 1) (tr ++ [⟨i, ⟨rdT l0 o, o.dst, rdO (look tm) o own.length, some k⟩, usesA (look tm) o.op⟩]) K (putT tm o.dst v) (setO own k cs) A
              | false => False
            | .out _ => False
          | false => ih (i + 1) (tr ++ [⟨i, ⟨rdT l0 o, o.dst, [], none⟩, false⟩]) K (putT tm o.dst undefTV) own A
        | false => False) l

section
variable {P : Program} {Ty : TypeId → Option TyI} {C : Cx} {ops : Array Oper} {Qx : Exit → Act → World → Prop}

structure SJ extends SI where
  rA : Bool
  B : AO
def SJ.run (P : Program) (C : Cx) (ops : Array Oper) (Qx : Exit → Act → World → Prop) (x : SJ) (T : Nat → Option TV) (O : Nat → Option (List AV)) : Prop :=
  ∀ A', x.B.sub A' → SI.run P C ops A' Qx x.toSI T O
def SJ.ok (P : Program) (C : Cx) (ops : Array Oper) (Qx : Exit → Act → World → Prop) (x : SJ) (T : Nat → Option TV) (O : Nat → Option (List AV)) : Prop :=
  ∀ T' O', x.toSI.agree T T' O O' → x.run P C ops Qx T' O'
def Seqj (P : Program) (C : Cx) (ops : Array Oper) (Qx : Exit → Act → World → Prop) : List SJ → (Nat → Option TV) → (Nat → Option (List AV)) → (Nat → Option TV) → (Nat → Option (List AV)) → Prop
  | [], T, O, Tn, On => T = Tn ∧ O = On
  | x :: R, T, O, Tn, On => x.ok P C ops Qx T O ∧ Seqj P C ops Qx R (x.toSI.nT T) (x.toSI.nO O) Tn On
theorem Seqj.take {j : SJ} (hj : j.toSI.wf) : ∀ (R1 R2 : List SJ) {T : Nat → Option TV} {O : Nat → Option (List AV)} {Tn : Nat → Option TV} {On : Nat → Option (List AV)},
    Seqj P C ops Qx (R1 ++ j :: R2) T O Tn On → (∀ x ∈ R1, x.toSI.wf ∧ apartF x.fp j.fp = true) → j.ok P C ops Qx T O ∧ Seqj P C ops Qx (R1 ++ R2) (j.toSI.nT T) (j.toSI.nO O) Tn On
  | [], R2, T, O, Tn, On, h, _ => h
  | x :: R1, R2, T, O, Tn, On, h, hi => by
    obtain ⟨hx, hr⟩ := h
    obtain ⟨hw, ha⟩ := hi x (by simp)
    obtain ⟨h1, h2⟩ := Seqj.take hj R1 R2 hr (fun y hy => hi y (List.mem_cons_of_mem _ hy))
    obtain ⟨c1, c2⟩ := SI.comm hw hj ha T O
    refine ⟨fun T' O' hag => h1 T' O' (agree_trans (SI.next_agree hw ha T O) hag), fun T' O' hag => hx T' O' (agree_trans (agree_symm (SI.next_agree hj (apart_symm ha) T O)) hag), ?_⟩
    rw [c1, c2] at h2
    exact h2
theorem Seqj.agree {fp : FP} : ∀ (R : List SJ) {T : Nat → Option TV} {O : Nat → Option (List AV)} {Tn : Nat → Option TV} {On : Nat → Option (List AV)},
    Seqj P C ops Qx R T O Tn On → (∀ x ∈ R, apartF x.fp fp = true) → ∀ t, t ∈ fp.rT → T t = Tn t
  | [], T, O, Tn, On, h, _, t, _ => by rw [h.1]
  | x :: R, T, O, Tn, On, h, hi, t, ht => by
    have := Seqj.agree R h.2 (fun y hy => hi y (List.mem_cons_of_mem _ hy)) t ht
    rw [← this]
    obtain ⟨h1, _⟩ := apart_facts (hi x (by simp))
    unfold SI.nT updT
    rw [if_neg (fun e => h1 t e.symm ht)]
theorem Seqj.shift {fp : FP} {v : TV} : ∀ (R : List SJ) {T : Nat → Option TV} {O : Nat → Option (List AV)} {Tn : Nat → Option TV} {On : Nat → Option (List AV)},
    Seqj P C ops Qx R T O Tn On → (∀ x ∈ R, apartF x.fp fp = true) → Seqj P C ops Qx R (updT T fp.wT v) O (updT Tn fp.wT v) On
  | [], T, O, Tn, On, h, _ => ⟨by rw [h.1], h.2⟩
  | x :: R, T, O, Tn, On, h, hi => by
    obtain ⟨_, h2, h3, _, _, _⟩ := apart_facts (hi x (by simp))
    refine ⟨fun T' O' hag => h.1 T' O' ⟨fun t ht => ?_, hag.2⟩, ?_⟩
    · rw [← hag.1 t ht]
      unfold updT
      rw [if_neg (fun e => h2 t e.symm ht)]
    · have := Seqj.shift (fp := fp) (v := v) R h.2 (fun y hy => hi y (List.mem_cons_of_mem _ hy))
      have e : x.toSI.nT (updT T fp.wT v) = updT (x.toSI.nT T) fp.wT v := by
        funext t
        unfold SI.nT updT
        by_cases e1 : some t = x.fp.wT
        · have e2 : ¬ some t = fp.wT := fun e2 => h3 t e1.symm e2.symm
          simp only [if_pos e1, if_neg e2]
        · simp only [if_neg e1]
      rw [e]; exact this

def TlS (P : Program) (C : Cx) (ops : Array Oper) (Qx : Exit → Act → World → Prop) : List TQ → (Nat → Option TV) → (Nat → Option (List AV)) → AO → Prop
  | [], T, O, A => ∀ a w g ob, FR C T O A g ob a w → Qx .normal a w
  | z :: Z, T, O, A => ∀ T' O', (∀ t, t ∈ z.fp.rT → T t = T' t) → ∀ g ob a w, FR C T' O' A g ob a w → ∀ K : Act → World → Prop,
      (∀ v A' g' ob' a' w', TlS P C ops Qx Z (updT T z.fp.wT v) O A' → FR C (updT T' z.fp.wT v) O' A' g' ob' a' w' → K a' w') → wpOp P ops Qx z.i K a w

/-- Every order, with a chain. -/
theorem any_ok2 {n : Nat} (hn : ops.size = n) (an : List Nat) (hedge : ∀ (j : Nat) o, ops[j]? = some o → ∀ e ∈ o.after.toList, Region.binds .any e = true → e.on < j)
    (han : ∀ (j : Nat) o, ops[j]? = some o → ∀ k, (an.getD j 0).testBit k = true → ∃ e ∈ o.after.toList, Region.binds .any e = true ∧ (e.on = k ∨ (an.getD e.on 0).testBit k = true)) :
    ∀ (fuel : Nat) (R : List SJ) (Z : List TQ) (listed : Array Bool) (T : Nat → Option TV) (O : Nat → Option (List AV)) (Tn : Nat → Option TV) (On : Nat → Option (List AV)) (A : AO) (g : Gh) (ob : Nat → Nat) (a : Act) (w : World), R.length + Z.length = fuel → listed.size = n →
      (∀ i, i < n → (listed.getD i true = false ↔ (∃ x ∈ R, x.idx = i) ∨ ∃ z ∈ Z, z.i = i)) → (∀ x ∈ R, x.idx < n ∧ x.toSI.wf) → (∀ z ∈ Z, z.i < n) → (∀ x ∈ R, ∀ z ∈ Z, x.idx ≠ z.i) →
      R.Pairwise (fun x y => x.idx ≠ y.idx ∧ ((an.getD y.idx 0).testBit x.idx = true ∨ apartF x.fp y.fp = true)) → Z.Pairwise (fun x y => x.i ≠ y.i ∧ (an.getD y.i 0).testBit x.i = true) →
      (∀ i o, ops[i]? = some o → listed.getD i true = true → ∀ e ∈ o.after.toList, Region.binds .any e = true → listed.getD e.on true = true) →
      (∀ x ∈ R, ∀ z ∈ Z, (an.getD z.i 0).testBit x.idx = true ∨ (apartF x.fp z.fp = true ∧ x.B = .nil)) → (∀ x ∈ R, x.B.sub A) →
      Seqj P C ops Qx R T O Tn On → TlS P C ops Qx Z Tn On A → FR C T O A g ob a w → wpAny P .any ops Qx fuel listed a w := by
  have getD_lt : ∀ (l : Array Bool) (i : Nat), l.size = n → i < n → l.getD i true = l.getD i false := fun l i hl hi => by
    have : i < l.size := by omega
    simp [this]
  have ready_mem : ∀ (l : Array Bool) (i : Nat), i ∈ Region.ready .any ops l ↔ i < n ∧ l.getD i true = false ∧ ∃ o, ops[i]? = some o ∧ ∀ e ∈ o.after.toList, Region.binds .any e = true → l.getD e.on false = true := fun l i => by
    unfold Region.ready
    rw [List.mem_filter, List.mem_range, hn]
    constructor
    · rintro ⟨h1, h2⟩
      rw [Bool.and_eq_true] at h2
      obtain ⟨h2, h3⟩ := h2
      refine ⟨h1, by simpa using h2, ?_⟩
      cases hq : ops[i]? with
      | none => rw [hq] at h3; simp at h3
      | some o =>
        rw [hq] at h3
        simp only [Option.map_some, Option.getD_some, Array.all_eq_true_iff_forall_mem] at h3
        refine ⟨o, rfl, fun e he hb => ?_⟩
        have := h3 e (by simpa using he)
        simpa [hb] using this
    · rintro ⟨h1, h2, o, h3, h4⟩
      refine ⟨h1, ?_⟩
      rw [Bool.and_eq_true]
      refine ⟨by simpa using h2, ?_⟩
      rw [h3]
      simp only [Option.map_some, Option.getD_some, Array.all_eq_true_iff_forall_mem]
      intro e he
      cases hb : Region.binds .any e with
      | false => rfl
      | true => simpa using h4 e (by simpa using he) hb
  intro fuel
  induction fuel with
  | zero =>
    intro R Z listed T O Tn On A g ob a w hR hl hun hidx hzn hdis hsort hchain hcl hft hB hseq htl hF
    have hR0 : R = [] := List.eq_nil_of_length_eq_zero (by omega)
    have hZ0 : Z = [] := List.eq_nil_of_length_eq_zero (by omega)
    subst hR0; subst hZ0
    obtain ⟨rfl, rfl⟩ := hseq
    refine ⟨List.eq_nil_iff_forall_not_mem.2 fun i hi => ?_, htl a w g ob hF⟩
    obtain ⟨h1, h2, _⟩ := (ready_mem listed i).1 hi
    rcases (hun i h1).1 h2 with ⟨x, hx, _⟩ | ⟨x, hx, _⟩ <;> simp at hx
  | succ fuel ih =>
    intro R Z listed T O Tn On A g ob a w hR hl hun hidx hzn hdis hsort hchain hcl hft hB hseq htl hF
    refine ⟨fun hnil => ?_, fun i hi => ?_⟩
    · exfalso
      have hex : ∀ i, i < n → listed.getD i true = false → False := by
        intro i
        induction i using Nat.strongRecOn with
        | _ i ihi =>
          intro hin hil
          have hx2 : ops[i]? = some (ops[i]'(by omega)) := Array.getElem?_eq_getElem (by omega)
          have : i ∈ Region.ready .any ops listed := (ready_mem listed i).2 ⟨hin, hil, _, hx2, fun e he hb => by
            have hlt := hedge _ _ hx2 e he hb
            rw [← getD_lt listed e.on hl (by omega)]
            cases hq : listed.getD e.on true with
            | true => rfl
            | false => exact (ihi e.on hlt (by omega) hq).elim⟩
          rw [hnil] at this
          simp at this
      cases R with
      | cons x R' => exact hex x.idx (hidx x (by simp)).1 ((hun _ (hidx x (by simp)).1).2 (.inl ⟨x, by simp, rfl⟩))
      | nil =>
        cases Z with
        | nil => simp at hR
        | cons z Z' => exact hex z.i (hzn z (by simp)) ((hun _ (hzn z (by simp))).2 (.inr ⟨z, by simp, rfl⟩))
    · obtain ⟨h1, h2, o, h3, h4⟩ := (ready_mem listed i).1 hi
      have hedone : ∀ e ∈ o.after.toList, Region.binds .any e = true → listed.getD e.on true = true := fun e he hb => by
        have hlt := hedge i o h3 e he hb
        rw [getD_lt listed e.on hl (by omega)]
        exact h4 e he hb
      have hanc : ∀ (m : Nat), ∀ o', ops[m]? = some o' → (∀ e ∈ o'.after.toList, Region.binds .any e = true → listed.getD e.on true = true) → ∀ k, (an.getD m 0).testBit k = true → listed.getD k true = true := by
        intro m
        induction m using Nat.strongRecOn with
        | _ m ihm =>
          intro o' ho' he' k hk
          obtain ⟨e, k1, k2, k3⟩ := han m o' ho' k hk
          rcases k3 with k3 | k3
          · subst k3; exact he' e k1 k2
          · have hlt := hedge m o' ho' e k1 k2
            have hm : m < n := by rw [← hn]; exact (Array.getElem?_eq_some_iff.1 ho').1
            have hx2 : ops[e.on]? = some (ops[e.on]'(by omega)) := Array.getElem?_eq_getElem (by omega)
            exact ihm e.on hlt _ hx2 (hcl e.on _ hx2 (he' e k1 k2)) k k3
      have hset : ∀ m, (listed.setIfInBounds i true).getD m true = if m = i then true else listed.getD m true := fun m => by
        have his : i < listed.size := by omega
        simp only [Array.getD_eq_getD_getElem?, Array.getElem?_setIfInBounds]
        by_cases e : m = i
        · subst e; simp [his]
        · simp [Ne.symm e, e]
      have hcl' : ∀ m o', ops[m]? = some o' → (listed.setIfInBounds i true).getD m true = true → ∀ e ∈ o'.after.toList, Region.binds .any e = true → (listed.setIfInBounds i true).getD e.on true = true := fun m o' ho' hm e he hb => by
        rw [hset] at hm ⊢
        by_cases e2 : e.on = i
        · rw [if_pos e2]
        · rw [if_neg e2]
          by_cases e1 : m = i
          · subst e1
            rw [h3] at ho'
            injection ho' with ho'
            subst ho'
            exact hedone e he hb
          · rw [if_neg e1] at hm
            exact hcl m o' ho' hm e he hb
      rcases (hun i h1).1 h2 with ⟨j, hj, hji⟩ | ⟨z, hz, hzi⟩
      · obtain ⟨R1, R2, rfl⟩ := List.append_of_mem hj
        have hR1 : ∀ x ∈ R1, x.toSI.wf ∧ apartF x.fp j.fp = true := fun x hx => by
          have hx' : x ∈ R1 ++ j :: R2 := by simp [hx]
          refine ⟨(hidx x hx').2, ?_⟩
          rcases ((List.pairwise_append.1 hsort).2.2 x hx j (by simp)).2 with hb | hb
          · exfalso
            have hxl : listed.getD x.idx true = false := (hun _ (hidx x hx').1).2 (.inl ⟨x, hx', rfl⟩)
            have := hanc j.idx o (by rw [hji]; exact h3) hedone x.idx hb
            rw [this] at hxl; cases hxl
          · exact hb
        obtain ⟨k1, k2⟩ := Seqj.take (hidx j hj).2 R1 R2 hseq hR1
        have hsub : ∀ x, x ∈ R1 ++ R2 → x ∈ R1 ++ j :: R2 := fun x hx => by
          rcases List.mem_append.1 hx with hx | hx
          · simp [hx]
          · simp [hx]
        have hne : ∀ x, x ∈ R1 ++ R2 → x.idx ≠ i := fun x hx e => by
          rcases List.mem_append.1 hx with hx | hx
          · exact ((List.pairwise_append.1 hsort).2.2 x hx j (by simp)).1 (e.trans hji.symm)
          · exact ((List.pairwise_cons.1 (List.pairwise_append.1 hsort).2.1).1 x hx).1 (hji.trans e.symm)
        rw [← hji]
        refine k1 T O ⟨fun _ _ => rfl, fun _ _ => rfl⟩ A (hB j hj) g ob a w hF _ (fun a' w' g' ob' hF' => ?_)
        rw [hji]
        refine ih (R1 ++ R2) Z _ _ _ Tn On A g' ob' a' w' (by simp at hR ⊢; omega) (by simp [hl]) (fun m hm => ?_) (fun x hx => hidx x (hsub x hx)) hzn (fun x hx => hdis x (hsub x hx)) ?_ hchain hcl' (fun x hx => hft x (hsub x hx)) (fun x hx => hB x (hsub x hx)) k2 htl hF'
        · rw [hset]
          by_cases e : m = i
          · simp only [e, if_true]
            constructor
            · intro h; cases h
            · rintro (⟨x, hx, hx2⟩ | ⟨z, hz, hz2⟩)
              · exact absurd hx2 (hne x hx)
              · exact absurd (hji.trans hz2.symm) (hdis j hj z hz)
          · rw [if_neg e, hun m hm]
            constructor
            · rintro (⟨x, hx, hx2⟩ | hz)
              · refine .inl ⟨x, ?_, hx2⟩
                rcases List.mem_append.1 hx with hx | hx
                · simp [hx]
                · rcases List.mem_cons.1 hx with rfl | hx
                  · exact absurd (hx2.symm.trans hji) e
                  · simp [hx]
              · exact .inr hz
            · rintro (⟨x, hx, hx2⟩ | hz)
              · exact .inl ⟨x, hsub x hx, hx2⟩
              · exact .inr hz
        · rw [List.pairwise_append] at hsort ⊢
          exact ⟨hsort.1, (List.pairwise_cons.1 hsort.2.1).2, fun x hx y hy => hsort.2.2 x hx y (List.mem_cons_of_mem _ hy)⟩
      · -- the chain goes on
        cases Z with
        | nil => simp at hz
        | cons z0 Z' =>
          have hzz : z = z0 := by
            rcases List.mem_cons.1 hz with h | h
            · exact h
            · exfalso
              have hb := ((List.pairwise_cons.1 hchain).1 z h).2
              have := hanc z.i o (by rw [hzi]; exact h3) hedone z0.i hb
              have h0 : listed.getD z0.i true = false := (hun _ (hzn z0 (by simp))).2 (.inr ⟨z0, by simp, rfl⟩)
              rw [this] at h0; cases h0
          subst hzz
          have hap : ∀ x ∈ R, apartF x.fp z.fp = true ∧ x.B = .nil := fun x hx => by
            rcases hft x hx z (by simp) with hb | hb
            · exfalso
              have := hanc z.i o (by rw [hzi]; exact h3) hedone x.idx hb
              have h0 : listed.getD x.idx true = false := (hun _ (hidx x hx).1).2 (.inl ⟨x, hx, rfl⟩)
              rw [this] at h0; cases h0
            · exact hb
          rw [← hzi]
          refine htl T O (fun t ht => (Seqj.agree R hseq (fun x hx => (hap x hx).1) t ht).symm) g ob a w hF _ (fun v A' g' ob' a' w' htl' hF' => ?_)
          rw [hzi]
          refine ih R Z' _ _ _ _ _ A' g' ob' a' w' (by simp at hR ⊢; omega) (by simp [hl]) (fun m hm => ?_) hidx (fun y hy => hzn y (List.mem_cons_of_mem _ hy)) (fun x hx y hy => hdis x hx y (List.mem_cons_of_mem _ hy)) hsort (List.pairwise_cons.1 hchain).2 hcl'
            (fun x hx y hy => hft x hx y (List.mem_cons_of_mem _ hy)) (fun x hx => by rw [(hap x hx).2]; exact nil_sub) (Seqj.shift R hseq (fun x hx => (hap x hx).1)) htl' hF'
          rw [hset]
          by_cases e : m = i
          · simp only [e, if_true]
            constructor
            · intro h; cases h
            · rintro (⟨x, hx, hx2⟩ | ⟨y, hy, hy2⟩)
              · exact absurd (hx2.trans hzi.symm) (hdis x hx z (by simp))
              · exact absurd (hzi.trans hy2.symm) ((List.pairwise_cons.1 hchain).1 y hy).1
          · rw [if_neg e, hun m hm]
            constructor
            · rintro (hx | ⟨y, hy, hy2⟩)
              · exact .inl hx
              · rcases List.mem_cons.1 hy with rfl | hy
                · exact absurd (hy2.symm.trans hzi) e
                · exact .inr ⟨y, hy, hy2⟩
            · rintro (hx | ⟨y, hy, hy2⟩)
              · exact .inl hx
              · exact .inr ⟨y, List.mem_cons_of_mem _ hy, hy2⟩
end
end Ab
end Go.Proofs.YtpmigkbcldffeaaGreatDoor

/- Such regions, worked off. -/
namespace Go.Proofs.YtpmigkbcldffeaaGreatDoor
namespace Ab
section
variable {P : Program} {Ty : TypeId → Option TyI} {C : Cx} {ops : Array Oper}

theorem ev_mono {T T' : Nat → Option TV} (hT : ∀ t x, T t = some x → T' t = some x) {x : Operand} {v : TV} (h : ev T x = some v) : ev T' x = some v := by
  cases x with
  | tmp t => exact hT t v h
  | const c => exact h
  | func f => exact h
  | global g => cases h
theorem evs_mono {T T' : Nat → Option TV} (hT : ∀ t x, T t = some x → T' t = some x) : ∀ {l : List Operand} {vs : List AV}, evs T l = some vs → evs T' l = some vs
  | [], _, h => h
  | x :: r, vs, h => by
    unfold evs at h ⊢
    split at h
    · rename_i a hx
      split at h
      · rename_i az hr
        rw [ev_mono hT hx, evs_mono hT hr]
        exact h
      · cases h
    · cases h

/-- An operation of the chain. -/
theorem nopT_ok (ty : TyOk P Ty) {T T' : Nat → Option TV} (hT : ∀ t x, T t = some x → T' t = some x) {O' : Nat → Option (List AV)} {A : AO} {nx : Nat} {o : Oper} {K : TV → Eff → Prop} (hKo : ∀ v k cs, ¬ K v (.own k cs)) (h : nop P Ty [] nx T (fun _ => none) A o K) (hd : ∀ t, o.dst = some t → t < C.N)
    {g : Gh} {ob : Nat → Nat} {a : Act} {w : World} (hF : FR C T' O' A g ob a w) (Q : Exit → Act → World → Prop) :
    o.wp P a w (fun a' w' => ∃ v eff g' ob', K v eff ∧ FR C (updT T' o.dst v) O' (eff.A A) g' ob' a' w') Q := by
  have det : ∀ {K : TV → Eff → Prop}, (∀ v k cs, ¬ K v (.own k cs)) → aop P Ty nx T (fun _ => none) A o.op K → o.wp P a w (fun a' w' => ∃ v eff g' ob', K v eff ∧ FR C (updT T' o.dst v) O' (eff.A A) g' ob' a' w') Q := fun {K} hKo h => by
    obtain ⟨v, eff, hK, hE, hR⟩ := aop_ok (C := C) ty rfl h
    refine Oper.wp_mono ?_ (hR T' O' A hT (fun _ _ h => by cases h) (.refl _) (fun _ _ => rfl) (fun k cs he _ => by subst he; exact (hKo _ _ _ hK).elim) hd g ob a w hF Q)
    rintro a' w' ⟨g', ob', hf⟩
    refine ⟨v, eff, g', ob', hK, ?_⟩
    cases he : eff with
    | own k cs => subst he; exact (hKo _ _ _ hK).elim
    | nop => subst he; exact hf
    | out A' => subst he; exact hf
  have hsh : shared [] o = false := by unfold shared; cases o.dst <;> rfl
  unfold nop at h
  split at h
  · rename_i t0 ho
    obtain ⟨k1, k2⟩ := hF.newMap
    have := k2.put o.dst hd (v := .v (.map w.heap.size)) (V := .map (some w.heap.size)) (.map _)
    unfold Oper.wp execOp
    rw [ho]
    simp only [Option.map_none, Instr.makeMap, Sem.run_bind, Result.andThen_ok, run_newObj, Sem.run_pure, Oper.upon]
    exact ⟨_, .out _, g, ob, h.out_ _ k1, this⟩
  · rename_i e ho
    simp only [hsh] at h
    rw [← ho] at h; exact det hKo h
  · rename_i e x ho
    simp only [hsh] at h
    rw [← ho] at h; exact det hKo h
  · rename_i c ho
    split at h
    · rename_i f hc
      split at h
      · rename_i gf first cap hf
        split at h
        · rename_i az has
          refine Oper.wp_mono ?_ (hF.call ho hc (ev_mono hT hf) (evs_mono hT has) h hd Q)
          rintro a' w' ⟨v, A', g', hK, hf⟩
          exact ⟨_, .out A', g', ob, hK, hf⟩
        · exact h.elim
      · exact h.elim
    · rename_i hc
      split at h
      · rename_i s x hargs
        split at h
        · rename_i st xt hat
          split at h
          · rename_i i hi
            split at h
            · rename_i e hde
              split at h
              · rename_i j hj
                split at h
                · rename_i k hk
                  split at h
                  · exact h.elim
                  · rename_i hkd
                    split at h
                    · rename_i sz obk n rows hs
                      split at h
                      · rename_i va hx
                        split at h
                        · rename_i new hsrc
                          split at h
                          · rename_i hzl
                            split at h
                            · rename_i hzo
                              refine Oper.wp_mono ?_ (hF.append ty ho hc hargs hat hi hde hj hk (fun q hq => hkd q hq) (ev_mono hT hs) (ev_mono hT hx) hsrc (Nat.eq_of_beq_eq_true hzl) hzo h hd Q)
                              rintro a' w' ⟨ob', A', g', hK, hf⟩
                              exact ⟨_, .out A', g', ob, hK, hf⟩
                            · exact h.elim
                          · exact h.elim
                        · exact h.elim
                      · exact h.elim
                    · exact h.elim
                · exact h.elim
              · exact h.elim
            · exact h.elim
          · exact h.elim
        · exact h.elim
      · exact h.elim
    · rename_i hne1 hne2
      have e : Op.call { c with callee := c.callee } = o.op := by rw [ho]
      rw [e] at h
      exact det hKo h
  · exact det hKo h

theorem wantB_det2 {T : Nat → Option TV} {o : Oper} {K : Bool → Prop} (h : wantB ops.toList T o K) : ∃ b, K b ∧ wantB ops.toList T o fun c => c = b := by
  unfold wantB at h ⊢
  split at h
  · exact ⟨true, h, rfl⟩
  · split at h
    · split at h
      · split at h
        · exact ⟨_, h, rfl⟩
        · exact ⟨_, h, rfl⟩
        · exact ⟨_, h, rfl⟩
        · exact h.elim
      · exact h.elim
    · exact h.elim
theorem dst_lt {N : Nat} {o : Oper} (h : dstOk N o = true) : ∀ t, o.dst = some t → t < N := fun t e => by
  unfold dstOk at h
  rw [e] at h
  have h2 : Nat.ble (t + 1) N = true := h
  exact Nat.le_of_ble_eq_true h2

theorem aT_cons {em : Nat} {an : List Nat} {l0 : List Oper} {N : Nat} {o : Oper} {rest : List Oper} {i : Nat} {K : TM → OW → AO → Prop} {tm : TM} {own : OW} {A : AO} : aT P Ty N em an l0 (o :: rest) i K tm own A =
    match isTl em an i with
    | false => aT P Ty N em an l0 rest (i + 1) K tm own A
    | true => wantB l0 (restr (rdT l0 o) (look tm)) o fun wn => match dstOk N o with
      | true => match wn with
        | true => nop P Ty [] own.length (restr (rdT l0 o) (look tm)) (fun _ => none) A o fun v eff => match eff with
          | .nop => aT P Ty N em an l0 rest (i + 1) K (putT tm o.dst v) own A
          | .own _ _ => False
          | .out A' => aT P Ty N em an l0 rest (i + 1) K (putT tm o.dst v) own A'
        | false => aT P Ty N em an l0 rest (i + 1) K (putT tm o.dst undefTV) own A
      | false => False := rfl
theorem aF_cons {em : Nat} {an : List Nat} {l0 : List Oper} {N : Nat} {o : Oper} {rest : List Oper} {i : Nat} {tr : List FQ} {K : TM → OW → AO → Prop} {tm : TM} {own : OW} {A : AO} : aF P Ty N em an l0 (o :: rest) i tr K tm own A =
    match isTl em an i with
    | true => aF P Ty N em an l0 rest (i + 1) tr K tm own A
    | false => wantB l0 (restr (rdT l0 o) (look tm)) o fun wn => match dstOk N o with
      | true => match wn with
        | true => aop P Ty own.length (restr (rdT l0 o) (look tm)) (restr (rdO (look tm) o own.length) (own? own)) (selA (usesA (look tm) o.op) A) o.op fun v eff => match eff with
          | .nop => aF P Ty N em an l0 rest (i + 1) (tr ++ [⟨i, ⟨rdT l0 o, o.dst, rdO (look tm) o own.length, none⟩, usesA (look tm) o.op⟩]) K (putT tm o.dst v) own A
          | .own k cs => match memb (rdO (look tm) o own.length) k with
            | true => aF P Ty N em an l0 rest (i + 1) (tr ++ [⟨i, ⟨rdT l0 o, o.dst, rdO (look tm) o own.length, some k⟩, usesA (look tm) o.op⟩]) K (putT tm o.dst v) (setO own k cs) A
            | false => False
          | .out _ => False
        | false => aF P Ty N em an l0 rest (i + 1) (tr ++ [⟨i, ⟨rdT l0 o, o.dst, [], none⟩, false⟩]) K (putT tm o.dst undefTV) own A
      | false => False := rfl

theorem aT_sem (ty : TyOk P Ty) {em : Nat} {an : List Nat} {K : Exit → TM → OW → AO → Prop} : ∀ (l : List Oper) (i : Nat), (∀ j, l[j]? = ops[i + j]?) → ∀ {tm : TM} {own : OW} {A : AO}, aT P Ty C.N em an ops.toList l i (K .normal) tm own A →
    TlS P C ops (Post C K) (tls em an ops.toList i l) (look tm) (own? own) A
  | [], i, hl, tm, own, A, h => fun a w g ob hF => ⟨tm, own, A, g, ob, h, hF⟩
  | o :: rest, i, hl, tm, own, A, h => by
    have ho : ops[i]? = some o := by have := hl 0; simpa using this.symm
    have hrest : ∀ j, rest[j]? = ops[i + 1 + j]? := fun j => by have := hl (j + 1); simpa [Nat.add_assoc, Nat.add_comm 1 j] using this
    rw [aT_cons] at h
    unfold tls
    split at h
    · rename_i hi
      rw [hi]
      exact aT_sem ty rest (i + 1) hrest h
    · rename_i hi
      rw [hi]
      intro T' O' hag g ob a w hF K0 hK0
      have hsub : ∀ t x, restr (rdT ops.toList o) (look tm) t = some x → T' t = some x := fun t x hx => by
        obtain ⟨h1, h2⟩ := restr_sub hx
        rw [← hag t h2]; exact h1
      obtain ⟨b, h, hwant⟩ := wantB_det (C := C) (A := A) h
      have hw' := hwant T' O' g ob a w hsub hF
      split at h
      · rename_i hdst
        have hd := dst_lt hdst
        unfold wpOp
        simp only [ho, hw']
        split at h
        · simp only [if_true]
          refine .inl (Oper.wp_mono ?_ (nopT_ok ty hsub (fun v k cs hk => hk) h hd hF _))
          rintro a' w' ⟨v, eff, g', ob', hk, hf⟩
          cases eff with
          | own k cs => exact hk.elim
          | nop =>
            have := aT_sem ty rest (i + 1) hrest hk
            rw [look_put] at this
            exact hK0 v A g' ob' a' w' this hf
          | out A' =>
            have := aT_sem ty rest (i + 1) hrest hk
            rw [look_put] at this
            exact hK0 v A' g' ob' a' w' this hf
        · simp only [Bool.false_eq_true, if_false]
          have := aT_sem ty rest (i + 1) hrest h
          rw [look_put] at this
          exact hK0 undefTV A g ob _ _ this (hF.put o.dst hd (v := undefTV) (.raw _))
      · exact h.elim

def SJ.key (x : SJ) : FQ := ⟨x.idx, x.fp, x.rA⟩
theorem selA_rows {u : Bool} {A : AO} : (selA u A).sub A := by
  cases u
  · exact nil_sub
  · exact .refl _
theorem aF_seq (ty : TyOk P Ty) {em : Nat} {an : List Nat} {Qx : Exit → Act → World → Prop} {A : AO} {K : TM → OW → AO → Prop} : ∀ (l : List Oper) (i : Nat) (tr : List FQ), (∀ j, l[j]? = ops[i + j]?) → ∀ {tm : TM} {own : OW}, aF P Ty C.N em an ops.toList l i tr K tm own A →
    ∃ (R : List SJ) (tm' : TM) (own' : OW), chk2 ops.toList an (tr ++ R.map SJ.key) (tls em an ops.toList 0 ops.toList) = true ∧ aT P Ty C.N em an ops.toList ops.toList 0 K tm' own' A ∧
      (∀ k, (∃ x ∈ R, x.idx = k) ↔ (i ≤ k ∧ k < i + l.length ∧ isTl em an k = false)) ∧ (∀ x ∈ R, x.toSI.wf ∧ (x.rA = false → x.B = .nil) ∧ x.B.sub A) ∧ R.Pairwise (fun x y => x.idx < y.idx) ∧
      Seqj P C ops Qx R (look tm) (own? own) (look tm') (own? own')
  | [], i, tr, hl, tm, own, h => by
    obtain ⟨h1, h2⟩ := (show NK _ _ from h).out
    exact ⟨[], tm, own, by simpa using h1, h2, fun k => by simp; omega, fun x hx => by simp at hx, List.Pairwise.nil, rfl, rfl⟩
  | o :: rest, i, tr, hl, tm, own, h => by
    have ho : ops[i]? = some o := by have := hl 0; simpa using this.symm
    have hrest : ∀ j, rest[j]? = ops[i + 1 + j]? := fun j => by have := hl (j + 1); simpa [Nat.add_assoc, Nat.add_comm 1 j] using this
    rw [aF_cons] at h
    have fin : ∀ (x : SJ) {tm1 : TM} {own1 : OW}, x.idx = i → isTl em an i = false → x.toSI.wf → (x.rA = false → x.B = .nil) → x.B.sub A → x.ok P C ops Qx (look tm) (own? own) → look tm1 = x.toSI.nT (look tm) → own? own1 = x.toSI.nO (own? own) →
        aF P Ty C.N em an ops.toList rest (i + 1) (tr ++ [x.key]) K tm1 own1 A → ∃ (R : List SJ) (tm' : TM) (own' : OW), chk2 ops.toList an (tr ++ R.map SJ.key) (tls em an ops.toList 0 ops.toList) = true ∧ aT P Ty C.N em an ops.toList ops.toList 0 K tm' own' A ∧
      (∀ k, (∃ x ∈ R, x.idx = k) ↔ (i ≤ k ∧ k < i + (o :: rest).length ∧ isTl em an k = false)) ∧ (∀ x ∈ R, x.toSI.wf ∧ (x.rA = false → x.B = .nil) ∧ x.B.sub A) ∧ R.Pairwise (fun x y => x.idx < y.idx) ∧
      Seqj P C ops Qx R (look tm) (own? own) (look tm') (own? own') := fun x {tm1 own1} hx0 ht hwf hB1 hB2 hok e1 e2 hh => by
      obtain ⟨R, tm', own', c1, c2, c3, c4, c5, c6⟩ := aF_seq ty (Qx := Qx) rest (i + 1) _ hrest hh
      rw [e1, e2] at c6
      refine ⟨x :: R, tm', own', by simpa using c1, c2, fun k => ?_, fun y hy => ?_, List.pairwise_cons.2 ⟨fun y hy => ?_, c5⟩, hok, c6⟩
      · constructor
        · rintro ⟨y, hy, rfl⟩
          rcases List.mem_cons.1 hy with rfl | hy
          · rw [hx0]; exact ⟨Nat.le_refl _, by simp, ht⟩
          · obtain ⟨a1, a2, a3⟩ := (c3 y.idx).1 ⟨y, hy, rfl⟩
            exact ⟨by omega, by simp; omega, a3⟩
        · rintro ⟨a1, a2, a3⟩
          by_cases e : k = i
          · exact ⟨x, by simp, by rw [hx0, e]⟩
          · obtain ⟨y, hy, hy2⟩ := (c3 k).2 ⟨by omega, by simp at a2; omega, a3⟩
            exact ⟨y, List.mem_cons_of_mem _ hy, hy2⟩
      · rcases List.mem_cons.1 hy with rfl | hy
        · exact ⟨hwf, hB1, hB2⟩
        · exact c4 y hy
      · have := (c3 y.idx).1 ⟨y, hy, rfl⟩; omega
    split at h
    · rename_i hi
      obtain ⟨R, tm', own', c1, c2, c3, c4, c5, c6⟩ := aF_seq ty (Qx := Qx) rest (i + 1) _ hrest h
      refine ⟨R, tm', own', c1, c2, fun k => ?_, c4, c5, c6⟩
      rw [c3 k]
      constructor
      · rintro ⟨a1, a2, a3⟩; exact ⟨by omega, by simp; omega, a3⟩
      · rintro ⟨a1, a2, a3⟩
        have : k ≠ i := fun e => by subst e; rw [hi] at a3; cases a3
        exact ⟨by omega, by simp at a2; omega, a3⟩
    · rename_i hi
      obtain ⟨b, h, hwb⟩ := wantB_det2 h
      have hwant : ∀ A' T' O' g ob a w, (∀ t x, restr (rdT ops.toList o) (look tm) t = some x → T' t = some x) → FR C T' O' A' g ob a w → Region.wanted o (yielded ops a.tmps) = b := fun A' T' O' g ob a w hT hF => hF.wanted hT hwb
      have hsubT : ∀ {T' : Nat → Option TV}, (∀ t, t ∈ rdT ops.toList o → look tm t = T' t) → ∀ t x, restr (rdT ops.toList o) (look tm) t = some x → T' t = some x := fun {T'} hag t x hx => by
        obtain ⟨h1, h2⟩ := restr_sub hx
        rw [← hag t h2]; exact h1
      split at h
      · rename_i hdst
        have hd := dst_lt hdst
        split at h
        · have hnx : restr (rdO (look tm) o own.length) (own? own) own.length = none := by
            cases hq : restr (rdO (look tm) o own.length) (own? own) own.length with
            | none => rfl
            | some x => have := (restr_sub hq).1; rw [own?_eq] at this; simp at this
          obtain ⟨v, eff, hK, hE, hR⟩ := aop_ok (C := C) ty hnx h
          have step : ∀ (wO : Option Nat), (∀ A', eff ≠ .out A') → (∀ k cs, eff = .own k cs → wO = some k ∧ k ∈ rdO (look tm) o own.length) →
              SJ.ok P C ops Qx ⟨⟨i, ⟨rdT ops.toList o, o.dst, rdO (look tm) o own.length, wO⟩, v, eff⟩, usesA (look tm) o.op, selA (usesA (look tm) o.op) A⟩ (look tm) (own? own) := fun wO hno hw T' O' hag A' hA g ob a w hF K' hK' => by
            have hT := hsubT hag.1
            have hO : ∀ k x, restr (rdO (look tm) o own.length) (own? own) k = some x → O' k = some x := fun k x hx => by
              obtain ⟨h1, h2⟩ := restr_sub hx
              rw [← hag.2 k h2]; exact h1
            have hw' := hwant A' T' O' g ob a w hT hF
            unfold wpOp
            simp only [ho, hw', if_true]
            refine .inl (Oper.wp_mono ?_ (hR T' O' A' hT hO hA (fun A1 he => absurd he (hno A1)) (fun k cs he hn => ?_) hd g ob a w hF _))
            · rintro a' w' ⟨g', ob', hf⟩
              refine hK' a' w' g' ob' ?_
              have hA : eff.A A' = A' := by cases he : eff with | nop => rfl | own _ _ => rfl | out A' => exact absurd he (hno A')
              rw [hA] at hf
              exact hf
            · obtain ⟨_, hm⟩ := hw k cs he
              rw [← hag.2 k hm]
              unfold restr at hn
              rw [(memb_iff _ _).2 hm] at hn
              exact hn
          have hB1 : usesA (look tm) o.op = false → selA (usesA (look tm) o.op) A = .nil := fun e => by rw [e]; rfl
          split at hK
          · exact fin ⟨⟨i, ⟨rdT ops.toList o, o.dst, rdO (look tm) o own.length, none⟩, v, .nop⟩, _, _⟩ rfl hi ⟨fun _ _ h => (by cases h), fun _ h => (by cases h)⟩ hB1 selA_rows (step none (fun _ h => (by cases h)) (fun _ _ h => (by cases h))) (look_put _ _ _) rfl hK
          · rename_i k cs
            split at hK
            · rename_i hm
              have hm := (memb_iff _ _).1 hm
              refine fin ⟨⟨i, ⟨rdT ops.toList o, o.dst, rdO (look tm) o own.length, some k⟩, v, .own k cs⟩, _, _⟩ rfl hi ⟨fun _ _ h => (by cases h; rfl), fun _ h => (by cases h)⟩ hB1 selA_rows (step (some k) (fun _ h => by cases h) (fun k' cs' h => by cases h; exact ⟨rfl, hm⟩)) (look_put _ _ _) ?_ hK
              have e := effO_get own (.own k cs) (by
                rcases hE with hE | hE
                · exact .inl (fun hn => hE (by
                    unfold restr
                    rw [(memb_iff _ _).2 hm]; exact hn))
                · exact .inr hE)
              exact e
            · exact hK.elim
          · exact hK.elim
        · refine fin ⟨⟨i, ⟨rdT ops.toList o, o.dst, [], none⟩, undefTV, .nop⟩, false, .nil⟩ rfl hi ⟨fun _ _ h => (by cases h), fun _ h => (by cases h)⟩ (fun _ => rfl) nil_sub (fun T' O' hag A' hA g ob a w hF K' hK' => ?_) (look_put _ _ _) rfl h
          have hw' := hwant A' T' O' g ob a w (hsubT hag.1) hF
          unfold wpOp
          simp only [ho, hw', Bool.false_eq_true, if_false]
          exact hK' _ _ g ob (hF.put o.dst hd (v := undefTV) (.raw _))
      · exact h.elim

theorem tls_mem {em : Nat} {an : List Nat} {l0 : List Oper} : ∀ (l : List Oper) (i k : Nat), (∃ z ∈ tls em an l0 i l, z.i = k) ↔ (i ≤ k ∧ k < i + l.length ∧ isTl em an k = true)
  | [], i, k => by simp [tls]; omega
  | o :: r, i, k => by
    unfold tls
    split
    · rename_i hi
      constructor
      · rintro ⟨z, hz, rfl⟩
        rcases List.mem_cons.1 hz with rfl | hz
        · exact ⟨Nat.le_refl _, by simp, hi⟩
        · obtain ⟨a1, a2, a3⟩ := (tls_mem r (i + 1) z.i).1 ⟨z, hz, rfl⟩
          exact ⟨by omega, by simp; omega, a3⟩
      · rintro ⟨a1, a2, a3⟩
        by_cases e : k = i
        · exact ⟨_, List.mem_cons_self, e.symm⟩
        · obtain ⟨z, hz, hz2⟩ := (tls_mem r (i + 1) k).2 ⟨by omega, by simp at a2; omega, a3⟩
          exact ⟨z, List.mem_cons_of_mem _ hz, hz2⟩
    · rename_i hi
      rw [tls_mem r (i + 1) k]
      constructor
      · rintro ⟨a1, a2, a3⟩; exact ⟨by omega, by simp; omega, a3⟩
      · rintro ⟨a1, a2, a3⟩
        have : k ≠ i := fun e => by subst e; rw [hi] at a3; cases a3
        exact ⟨by omega, by simp at a2; omega, a3⟩
theorem tls_sort {em : Nat} {an : List Nat} {l0 : List Oper} : ∀ (l : List Oper) (i : Nat), (tls em an l0 i l).Pairwise (fun x y => x.i < y.i)
  | [], _ => List.Pairwise.nil
  | o :: r, i => by
    unfold tls
    split
    · exact List.pairwise_cons.2 ⟨fun y hy => by have := (tls_mem r (i + 1) y.i).1 ⟨y, hy, rfl⟩; show i < y.i; omega, tls_sort r (i + 1)⟩
    · exact tls_sort r (i + 1)
theorem chkFF_pair {an : List Nat} : ∀ {l : List FQ}, chkFF an l = true → l.Pairwise fun x y => (an.getD y.i 0).testBit x.i = true ∨ apartF x.fp y.fp = true
  | [], _ => List.Pairwise.nil
  | f :: r, h => by
    unfold chkFF at h
    rw [Bool.and_eq_true, List.all_eq_true] at h
    exact List.pairwise_cons.2 ⟨fun y hy => by have := h.1 y hy; rwa [Bool.or_eq_true] at this, chkFF_pair h.2⟩
theorem chkTT_pair {an : List Nat} : ∀ {l : List TQ}, chkTT an l = true → l.Pairwise fun x y => (an.getD y.i 0).testBit x.i = true
  | [], _ => List.Pairwise.nil
  | f :: r, h => by
    unfold chkTT at h
    rw [Bool.and_eq_true, List.all_eq_true] at h
    exact List.pairwise_cons.2 ⟨h.1, chkTT_pair h.2⟩

theorem aF_ok (ty : TyOk P Ty) (ef : List Nat) (hm : P.follows .mixedOrders = true) : DOk P C (fun l K => aF P Ty C.N (effM ef 0 l) (ancs l []) l l 0 [] K) := by
  intro id ops K tm own A g ob a w h hF
  refine wp_region_any hm ?_
  have hFd : FR C (look tm) (own? own) A g ob a { w with drawn := w.drawn + 1 } := by
    have hId : Inv A g w.drew := ⟨hF.inv.sealed, fun p cs hp => hF.inv.rows p cs hp, fun p s' e'' hp => hF.inv.toks p s' e'' hp, fun p es hp => hF.inv.maps p es hp, hF.inv.apart, hF.inv.cps, fun p t hp => hF.inv.tys p t hp⟩
    have hSt : St A g w A g w.drew := ⟨.refl g, rfl, rfl, rfl, Nat.le_refl _, fun _ _ _ => rfl, fun _ h => .inl h, fun _ _ _ _ => rfl⟩
    exact hF.step hId hSt
  obtain ⟨R, tm', own', h1, h2, h3, h4, h5, h6⟩ := aF_seq (C := C) ty (Qx := Post C K) ops.toList 0 [] (fun j => by simp) h
  simp only [List.nil_append] at h1
  unfold chk2 at h1
  rw [Bool.and_eq_true, Bool.and_eq_true, Bool.and_eq_true] at h1
  obtain ⟨he, hff, hft, htt⟩ := h1
  have hT := aT_sem (C := C) ty ops.toList 0 (fun j => by simp) h2
  have hsz : ops.toList.length = ops.size := by simp
  have hlen : R.length + (tls (effM ef 0 ops.toList) (ancs ops.toList []) ops.toList 0 ops.toList).length = ops.size := by
    have key : ∀ (l : List Nat) (n : Nat), l.Pairwise (· < ·) → (∀ k, k ∈ l ↔ k < n) → l.length = n := by
      intro l n hp hmem
      have hnd : l.Nodup := hp.imp (fun h => Nat.ne_of_lt h)
      have h1 : l.Perm (List.range n) := (List.perm_ext_iff_of_nodup hnd List.nodup_range).2 (fun k => by rw [hmem k]; simp)
      simpa using h1.length_eq
    have key2 : ∀ (l1 l2 : List Nat) (n : Nat), l1.Nodup → l2.Nodup → (∀ k ∈ l1, k ∉ l2) → (∀ k, (k ∈ l1 ∨ k ∈ l2) ↔ k < n) → l1.length + l2.length = n := by
      intro l1 l2 n d1 d2 hd hmem
      have hnd : (l1 ++ l2).Nodup := List.nodup_append.2 ⟨d1, d2, fun a ha b hb e => hd a ha (e ▸ hb)⟩
      have h1 : (l1 ++ l2).Perm (List.range n) := (List.perm_ext_iff_of_nodup hnd List.nodup_range).2 (fun k => by rw [List.mem_append, hmem k]; simp)
      simpa using h1.length_eq
    have := key2 (R.map fun x => x.idx) ((tls (effM ef 0 ops.toList) (ancs ops.toList []) ops.toList 0 ops.toList).map fun z => z.i) ops.size
      (List.pairwise_map.2 (h5.imp (fun h => Nat.ne_of_lt h))) (List.pairwise_map.2 ((tls_sort _ _).imp (fun h => Nat.ne_of_lt h)))
      (fun k hk hk2 => by
        obtain ⟨x, hx, e⟩ := List.mem_map.1 hk
        obtain ⟨z, hz, e2⟩ := List.mem_map.1 hk2
        have a1 := ((h3 k).1 ⟨x, hx, e⟩).2.2
        have a2 := ((tls_mem _ _ k).1 ⟨z, hz, e2⟩).2.2
        rw [a1] at a2; cases a2)
      (fun k => by
        rw [List.mem_map, List.mem_map]
        constructor
        · rintro (⟨x, hx, e⟩ | ⟨z, hz, e⟩)
          · have := (h3 k).1 ⟨x, hx, e⟩; omega
          · have := (tls_mem _ _ k).1 ⟨z, hz, e⟩; omega
        · intro hk
          cases ht : isTl (effM ef 0 ops.toList) (ancs ops.toList []) k with
          | false => exact .inl ((h3 k).2 ⟨Nat.zero_le _, by omega, ht⟩)
          | true => exact .inr ((tls_mem _ _ k).2 ⟨Nat.zero_le _, by omega, ht⟩))
    simpa using this
  have hR : ∀ x ∈ R, x.idx < ops.size ∧ isTl (effM ef 0 ops.toList) (ancs ops.toList []) x.idx = false := fun x hx => by
    have := (h3 x.idx).1 ⟨x, hx, rfl⟩
    exact ⟨by omega, this.2.2⟩
  have hZ : ∀ z ∈ tls (effM ef 0 ops.toList) (ancs ops.toList []) ops.toList 0 ops.toList, z.i < ops.size ∧ isTl (effM ef 0 ops.toList) (ancs ops.toList []) z.i = true := fun z hz => by
    have := (tls_mem _ _ z.i).1 ⟨z, hz, rfl⟩
    exact ⟨by omega, this.2.2⟩
  refine any_ok2 (C := C) (Qx := Post C K) rfl (ancs ops.toList []) (fun j o ho e hee hb => ?_) (fun j o ho k hk => ?_) ops.size R _ _ _ _ _ _ A g ob a _ hlen (by simp) (fun i hi => ?_) (fun x hx => ⟨(hR x hx).1, (h4 x hx).1⟩) (fun z hz => (hZ z hz).1)
    (fun x hx z hz e => by have := (hR x hx).2; rw [e, (hZ z hz).2] at this; cases this) ?_ ?_ (fun i o ho hl => ?_) (fun x hx z hz => ?_) (fun x hx => (h4 x hx).2.2) h6 hT hFd
  · have := edgesAll_get ops.toList 0 he j o (by simpa using ho)
    rw [Nat.zero_add] at this
    exact edgesOk_mem this e hee hb
  · have := ancs_get ops.toList [] 0 rfl he j o (by simpa using ho) k (by rwa [Nat.zero_add])
    exact this
  · simp only [Array.getD_eq_getD_getElem?, Array.getElem?_replicate, hi, if_true, Option.getD_some, true_iff]
    cases ht : isTl (effM ef 0 ops.toList) (ancs ops.toList []) i with
    | false => exact .inl ((h3 i).2 ⟨Nat.zero_le _, by omega, ht⟩)
    | true => exact .inr ((tls_mem _ _ i).2 ⟨Nat.zero_le _, by omega, ht⟩)
  · have hp := List.pairwise_map.1 (chkFF_pair hff)
    exact hp.and h5 |>.imp (fun h => ⟨Nat.ne_of_lt h.2, h.1⟩)
  · exact (chkTT_pair htt).and (tls_sort _ _) |>.imp (fun h => ⟨Nat.ne_of_lt h.2, h.1⟩)
  · exfalso
    have hi : i < ops.size := (Array.getElem?_eq_some_iff.1 ho).1
    simp [hi] at hl
  · unfold chkFT at hft
    have := List.all_eq_true.1 (List.all_eq_true.1 hft x.key (List.mem_map_of_mem hx)) z hz
    rw [Bool.or_eq_true, Bool.and_eq_true] at this
    rcases this with h | ⟨h, hr⟩
    · exact .inl h
    · exact .inr ⟨h, (h4 x hx).2.1 (by simpa [SJ.key] using hr)⟩
end
end Ab
end Go.Proofs.YtpmigkbcldffeaaGreatDoor
