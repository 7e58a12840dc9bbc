/- Control and regions: joins, loops by rounds, regions whose order is drawn. Conditions: none. -/
import Derived.Test.YtocknibhajihmaaKwD
set_option linter.unusedVariables false
set_option linter.unusedSimpArgs false
namespace Go.Kw

section
variable {P : Program} {Q : Exit → Act → World → Prop} {a : Act} {w : World} {n : Nat} {L : List (Nat × Value)} {ops : Array Oper}

theorem sq {x y : Code} (h : x.wp P (Exit.then (fun a w => y.wp P Q a w) Q) a w) : (Code.seq x y).wp P Q a w := wp_seq h
/-- With what holds in between. -/
theorem sqj {x y : Code} (I : Act → World → Prop) (h : x.wp P (Exit.then I Q) a w) (k : ∀ a w, I a w → y.wp P Q a w) : (Code.seq x y).wp P Q a w :=
  wp_seq (wp_mono h fun e a w q => by cases e <;> first | exact q | exact k _ _ q)
theorem rg {id : Nat} {l : List Oper} (h : wpList P l.toArray Q l a w) : (Code.region id l.toArray false).wp P Q a w := wp_region_lit h
theorem nilT {K : Act → World → Prop} (k : K a w) : wpList P ops (Exit.then K Q) [] a w := wpList_nil k
theorem nilN (k : Q .normal a w) : wpList P ops Q [] a w := wpList_nil k
theorem skT {K : Act → World → Prop} (k : K a w) : Code.skip.wp P (Exit.then K Q) a w := wp_skip k
theorem skN (k : Q .normal a w) : Code.skip.wp P Q a w := wp_skip k
theorem cnd {c : Operand} {x y : Code} {t : Bool} (hF : Fr n a L) (hc : ev L c = some (.bool t)) (h1 : t = true → x.wp P Q a w) (h2 : t = false → y.wp P Q a w) : (Code.cond c x y).wp P Q a w :=
  wp_cond_split (hF.ag c _ hc) h1 h2

theorem wpList_cut {I : Act → World → Prop} : ∀ (l1 l2 : List Oper) (a : Act) (w : World), wpList P ops (Exit.then I Q) l1 a w → (∀ a w, I a w → wpList P ops Q l2 a w) → wpList P ops Q (l1 ++ l2) a w
  | [], l2, a, w, h, k => k a w h
  | o :: l1, l2, a, w, h, k => by
    simp only [List.cons_append]
    unfold wpList at h ⊢
    by_cases hw : Region.wanted o (yielded ops a.tmps) = true
    · rw [if_pos hw] at h ⊢
      rcases h with h | ⟨h1, a0, w0, h2⟩
      · refine .inl ?_
        unfold Oper.wp at h ⊢
        generalize (execOp a.eval o).run P w = r at *
        cases r with
        | ok nx w' =>
          cases nx <;> simp only [Oper.upon] at h ⊢
          case value v => exact wpList_cut l1 l2 _ _ h k
          case skip => exact wpList_cut l1 l2 _ _ h k
          case defer d => exact wpList_cut l1 l2 _ _ h k
          case enter f args =>
            refine Calls.mono h ?_
            intro en w'' he
            cases en with
            | returned v => exact wpList_cut l1 l2 _ _ he k
            | panicked ch => exact he
            | outgrown => obtain ⟨a0, w0, h2⟩ := he; exact ⟨a0, w0, h2⟩
          case row rw_ args => exact Go.Rows.mono h fun v w'' he => wpList_cut l1 l2 _ _ he k
        | halt x w' => cases x <;> simp only [Oper.upon] at h ⊢ <;> exact h
      · exact .inr ⟨h1, a0, w0, h2⟩
    · rw [if_neg hw] at h ⊢
      exact wpList_cut l1 l2 _ _ h k
/-- The first m operations by themselves, with what holds behind them. -/
theorem cutj (m : Nat) {l : List Oper} {l1 l2 : List Oper} (I : Act → World → Prop) (h1 : l.take m = l1) (h2 : l.drop m = l2) (h : wpList P ops (Exit.then I Q) l1 a w) (k : ∀ a w, I a w → wpList P ops Q l2 a w) : wpList P ops Q l a w := by
  subst h1 h2
  have := wpList_cut _ _ a w h k
  rwa [List.take_append_drop] at this

theorem lp (k : Nat) {c : Code} (h : Code.rounds P c Q k a w) : (Code.loop c).wp P Q a w := wp_loop_rounds k h
theorem rnd {k : Nat} {c : Code} (h : c.wp P (Exit.then (Code.rounds P c Q k) Q) a w) : Code.rounds P c Q (k + 1) a w := h
theorem blk {id : Nat} {c : Code} (h : c.wp P (Exit.inBlock id Q) a w) : (Code.block id c).wp P Q a w := wp_block h
theorem exi {id : Nat} (h : Q (.exit id) a w) : (Code.exit id).wp P Q a w := wp_exit h
theorem rt (h : Q .ret a w) : Code.ret.wp P Q a w := wp_ret h

/-! ### a region whose order is drawn: pure operations first, in any order; then a tail in order -/
theorem Pu.mono {L L' : List (Nat × Value)} {o : Oper} {v : Value} (h : Pu P L o w v) (k : ∀ t u, lk L t = some u → lk L' t = some u) : Pu P L' o w v := by
  intro ρ hρ
  refine h ρ fun x u hx => hρ x u ?_
  cases x with
  | tmp t => exact k t u hx
  | const v' => exact hx
  | global g => exact hx
  | func f => exact hx

def tmpsOf (o : Oper) : List Tmp := o.op.operands.toList.filterMap fun | .tmp t => some t | _ => none
def depOn (o : Oper) (i : Nat) : Bool := o.after.any fun e => e.on == i && Region.binds .any e
/-- What the region's text must be like. -/
def drawB (ops : List Oper) (ds : List Tmp) : Bool :=
  (List.range ops.length).all fun j => match ops[j]? with
    | none => true
    | some o =>
      if j < ds.length then
        (match o.op with | .select _ _ => false | _ => true) && o.dst == ds[j]? && (List.range j).all (fun i => ds[i]? != ds[j]?) &&
        (tmpsOf o).all (fun t => (List.range ds.length).all fun i => ds[i]? != some t || depOn o i) &&
        (match o.guard with | none => true | some (g, _) => decide (g < ds.length) && depOn o g) &&
        o.after.all fun e => !Region.binds .any e || decide (e.on < j)
      else
        ((List.range ds.length).all (fun i => depOn o i) || (decide (ds.length < j) && depOn o (j - 1))) && (decide (j = ds.length) || depOn o (j - 1)) && o.after.all fun e => !Region.binds .any e || decide (e.on < j)

end
inductive PuAll (P : Program) (w : World) (ops : Array Oper) : List Oper → List (Nat × Value) → List (Nat × Value) → Prop
  | nil {L0 : List (Nat × Value)} : PuAll P w ops [] L0 L0
  | pure {d : Nat} {op : Op} {ty : TypeId} {pos : String} {af : Array Edge} {v : Value} {r : List Oper} {L0 L1 : List (Nat × Value)} : lk L0 d = none → Pu P L0 ⟨some d, op, ty, pos, af, none⟩ w v → PuAll P w ops r ((d, v) :: L0) L1 →
      PuAll P w ops (⟨some d, op, ty, pos, af, none⟩ :: r) L0 L1
  | on {d : Nat} {op : Op} {ty : TypeId} {pos : String} {af : Array Edge} {j t : Nat} {b : Bool} {v : Value} {r : List Oper} {L0 L1 : List (Nat × Value)} : lk L0 d = none → (ops[j]?).bind (·.dst) = some t → lk L0 t = some (.bool b) →
      Pu P L0 ⟨some d, op, ty, pos, af, some (j, b)⟩ w v → PuAll P w ops r ((d, v) :: L0) L1 → PuAll P w ops (⟨some d, op, ty, pos, af, some (j, b)⟩ :: r) L0 L1
  | off {d : Nat} {op : Op} {ty : TypeId} {pos : String} {af : Array Edge} {j t : Nat} {b b' : Bool} {r : List Oper} {L0 L1 : List (Nat × Value)} : lk L0 d = none → (ops[j]?).bind (·.dst) = some t → lk L0 t = some (.bool b') → b' ≠ b →
      PuAll P w ops r ((d, undef) :: L0) L1 → PuAll P w ops (⟨some d, op, ty, pos, af, some (j, b)⟩ :: r) L0 L1

theorem lk_cons_mono {L : List (Nat × Value)} {d : Nat} {v : Value} (hd : lk L d = none) : ∀ t u, lk L t = some u → lk ((d, v) :: L) t = some u := by
  intro t u ht
  simp only [lk]
  cases e : Nat.beq d t with
  | true =>
    have e' := Nat.eq_of_beq_eq_true e
    subst e'
    rw [hd] at ht; cases ht
  | false => exact ht
theorem lk_head (L : List (Nat × Value)) (d : Nat) (v : Value) : lk ((d, v) :: L) d = some v := by simp [lk]

/-- What is known of an operation of the first part, in the end. -/
def Known (P : Program) (w : World) (ops : Array Oper) (L : List (Nat × Value)) (o : Oper) : Prop :=
  ∃ d v, o.dst = some d ∧ lk L d = some v ∧ match o.guard with
    | none => Pu P L o w v
    | some (j, b) => ∃ t b', (ops[j]?).bind (·.dst) = some t ∧ lk L t = some (.bool b') ∧ (b' = b → Pu P L o w v) ∧ (b' ≠ b → v = undef)

theorem PuAll.spec {P : Program} {w : World} {ops : Array Oper} {l : List Oper} {L0 L1 : List (Nat × Value)} (h : PuAll P w ops l L0 L1) :
    (∀ t u, lk L0 t = some u → lk L1 t = some u) ∧ (∀ o ∈ l, Known P w ops L1 o) ∧ ∀ t u, lk L1 t = some u → lk L0 t = some u ∨ ∃ o ∈ l, o.dst = some t := by
  induction h with
  | nil => exact ⟨fun _ _ h => h, by simp, fun _ _ h => .inl h⟩
  | @pure d op ty pos af v r L0 L1 hd hp hr ih =>
    obtain ⟨i1, i2, i3⟩ := ih
    have hm := fun t u h => i1 t u (lk_cons_mono (v := v) hd t u h)
    refine ⟨hm, ?_, ?_⟩
    · intro o ho
      rcases List.mem_cons.1 ho with rfl | ho
      · exact ⟨d, v, rfl, i1 _ _ (lk_head _ _ _), hp.mono hm⟩
      · exact i2 o ho
    · intro t u ht
      rcases i3 t u ht with h | ⟨o, ho, hod⟩
      · simp only [lk] at h
        cases e : Nat.beq d t with
        | true => exact .inr ⟨_, List.mem_cons_self .., by have := Nat.eq_of_beq_eq_true e; subst this; rfl⟩
        | false => rw [e] at h; exact .inl h
      · exact .inr ⟨o, List.mem_cons_of_mem _ ho, hod⟩
  | @on d op ty pos af j t b v r L0 L1 hd hj ht hp hr ih =>
    obtain ⟨i1, i2, i3⟩ := ih
    have hm := fun t u h => i1 t u (lk_cons_mono (v := v) hd t u h)
    refine ⟨hm, ?_, ?_⟩
    · intro o ho
      rcases List.mem_cons.1 ho with rfl | ho
      · exact ⟨d, v, rfl, i1 _ _ (lk_head _ _ _), t, b, hj, hm _ _ ht, fun _ => hp.mono hm, fun h => absurd rfl h⟩
      · exact i2 o ho
    · intro t u ht
      rcases i3 t u ht with h | ⟨o, ho, hod⟩
      · simp only [lk] at h
        cases e : Nat.beq d t with
        | true => exact .inr ⟨_, List.mem_cons_self .., by have := Nat.eq_of_beq_eq_true e; subst this; rfl⟩
        | false => rw [e] at h; exact .inl h
      · exact .inr ⟨o, List.mem_cons_of_mem _ ho, hod⟩
  | @off d op ty pos af j t b b' r L0 L1 hd hj ht hb hr ih =>
    obtain ⟨i1, i2, i3⟩ := ih
    have hm := fun t u h => i1 t u (lk_cons_mono (v := undef) hd t u h)
    refine ⟨hm, ?_, ?_⟩
    · intro o ho
      rcases List.mem_cons.1 ho with rfl | ho
      · exact ⟨d, undef, rfl, i1 _ _ (lk_head _ _ _), t, b', hj, hm _ _ ht, fun h => absurd h hb, fun _ => rfl⟩
      · exact i2 o ho
    · intro t u ht
      rcases i3 t u ht with h | ⟨o, ho, hod⟩
      · simp only [lk] at h
        cases e : Nat.beq d t with
        | true => exact .inr ⟨_, List.mem_cons_self .., by have := Nat.eq_of_beq_eq_true e; subst this; rfl⟩
        | false => rw [e] at h; exact .inl h
      · exact .inr ⟨o, List.mem_cons_of_mem _ ho, hod⟩

theorem Pu.run_of {P : Program} {L : List (Nat × Value)} {o : Oper} {w : World} {v : Value} (h : Pu P L o w v) (hs : ∀ cs b, o.op ≠ .select cs b) {ρ : Operand → Value} (hρ : ∀ t u, t ∈ tmpsOf o → lk L t = some u → ρ (.tmp t) = u)
    (hc : ∀ v, ρ (.const v) = v) (hgl : ∀ g, ρ (.global g) = .pointer (some ⟨g, 0, none⟩)) (hfn : ∀ f, ρ (.func f) = .func (.func f) #[] #[]) : (execOp ρ o).run P w = .ok (.value v) w := by
  let ρ' : Operand → Value := fun x => match ev L x with
    | some u => u
    | none => ρ x
  have h1 : Ag ρ' L := fun x u hx => by simp only [ρ', hx]
  rw [← h ρ' h1]
  refine congrArg (fun s => Sem.run P s w) (execOp_congr o hs ?_)
  intro x hx
  simp only [ρ']
  cases x with
  | tmp t =>
    cases e : lk L t with
    | none => simp [ev, e]
    | some u =>
      simp only [ev, e]
      exact hρ t u (by simp only [tmpsOf, List.mem_filterMap]; exact ⟨.tmp t, by simpa using hx, rfl⟩) e
  | const v' => simp [ev, hc]
  | global g => simp [ev, hgl]
  | func f => simp [ev, hfn]

section
variable {P : Program} {Q : Exit → Act → World → Prop} {n : Nat}

theorem mem_ready {ops : Array Oper} {listed : Array Bool} {i : Nat} : i ∈ Region.ready .any ops listed ↔ i < ops.size ∧ listed.getD i true = false ∧ ∃ o, ops[i]? = some o ∧ ∀ e ∈ o.after, Region.binds .any e = true → listed.getD e.on false = true := by
  unfold Region.ready
  simp only [List.mem_filter, List.mem_range]
  constructor
  · rintro ⟨h1, h2⟩
    obtain ⟨o, ho⟩ : ∃ o, ops[i]? = some o := ⟨ops[i], by simp [h1]⟩
    simp only [ho, Option.map_some, Option.getD_some, Bool.and_eq_true, Bool.not_eq_true'] at h2
    refine ⟨h1, h2.1, o, ho, ?_⟩
    intro e he hb
    have := Array.all_eq_true_iff_forall_mem.1 h2.2 e he
    simpa [hb] using this
  · rintro ⟨h1, h2, o, ho, h3⟩
    refine ⟨h1, ?_⟩
    simp only [ho, Option.map_some, Option.getD_some, h2, Bool.not_false, Bool.true_and]
    refine Array.all_eq_true_iff_forall_mem.2 fun e he => ?_
    cases hb : Region.binds .any e
    · rfl
    · simp [h3 e he hb]

theorem depOn_spec {o : Oper} {i : Nat} (h : depOn o i = true) : ∃ e ∈ o.after, e.on = i ∧ Region.binds .any e = true := by
  unfold depOn at h
  obtain ⟨j, hj, h⟩ := Array.any_eq_true.1 h
  simp only [Bool.and_eq_true, beq_iff_eq] at h
  exact ⟨_, Array.getElem_mem hj, h.1, h.2⟩

def noSel : Op → Bool
  | .select _ _ => false
  | _ => true
/-- One pure operation, as it may be carried out: under its guard or without one. -/
def Know (P : Program) (ops : Array Oper) (L : List (Nat × Value)) (w : World) (i : Nat) : Prop :=
  ∃ o d v, ops[i]? = some o ∧ o.dst = some d ∧ lk L d = some v ∧ noSel o.op = true ∧ match o.guard with
    | none => Pu P L o w v
    | some (j, b) => ∃ t u, (ops[j]?).bind (·.dst) = some t ∧ lk L t = some u ∧ (u = .bool b → Pu P L o w v) ∧ (u ≠ .bool b → v = undef)
def dstOf (ops : Array Oper) (i : Nat) : Option Tmp := (ops[i]?).bind (·.dst)
def looks (ops : Array Oper) (o : Oper) (t : Tmp) : Bool := (tmpsOf o).contains t || match o.guard with
  | some (g, _) => dstOf ops g == some t
  | none => false
/-- i may stand behind what is pending: it hangs on what it looks at, nobody pending looks at what it writes. -/
def okP (ops : Array Oper) (pend : List Nat) (i : Nat) : Bool := match ops[i]? with
  | none => false
  | some o => (match o.dst with
      | none => true
      | some d => !looks ops o d && pend.all fun p => (match ops[p]? with | some q => !looks ops q d && q.dst != some d | none => true)) &&
    pend.all fun p => (match dstOf ops p with | some t => !looks ops o t || depOn o p | none => true)
/-- nothing of what is to do may be carried out ahead of i. -/
def okC (ops : Array Oper) (i : Nat) : List Nat → List Nat → Bool
  | _, [] => true
  | seen, j :: r => (match ops[j]? with | some o => depOn o i || seen.any (depOn o ·) | none => false) && okC ops i (seen ++ [j]) r
def okE (ops : Array Oper) (pend pend2 : List Nat) (i : Nat) : Bool := match ops[i]? with
  | none => false
  | some o => (match o.op with | .select _ _ => false | _ => true) && pend.all (fun p => pend2.contains p || depOn o p) && pend2.all (fun p => pend.contains p) && pend2.all (fun p => (match dstOf ops p with | some t => !looks ops o t | none => true)) &&
    (match o.dst with
      | none => true
      | some d => pend2.all fun p => (match ops[p]? with | some q => !looks ops q d && q.dst != some d | none => true))

/-- A guard that lets by. -/
def GOn (ops : Array Oper) (L : List (Nat × Value)) : Option (Nat × Bool) → Prop
  | none => True
  | some (j, b) => ∃ t, (ops[j]?).bind (·.dst) = some t ∧ lk L t = some (.bool b)
/-- One of the effects that may come next. -/
def EffStep (P : Program) (ops : Array Oper) (n : Nat) (C : List Nat → List (Nat × Value) → World → Prop) (pend : List Nat) (L : List (Nat × Value)) (w : World) (i : Nat) : Prop :=
  (∃ pend2 d op ty pos af g, ∃ R : Value → World → Prop, ops[i]? = some ⟨some d, op, ty, pos, af, g⟩ ∧ GOn ops L g ∧ d < n ∧ okE ops pend pend2 i = true ∧ Ef P L ⟨some d, op, ty, pos, af, g⟩ w R ∧
      ∀ v w', R v w' → (∀ p ∈ pend2, Know P ops ((d, v) :: L) w' p) ∧ C pend2 ((d, v) :: L) w') ∨
    (∃ pend2 op ty pos af g, ∃ R : Value → World → Prop, ops[i]? = some ⟨none, op, ty, pos, af, g⟩ ∧ GOn ops L g ∧ okE ops pend pend2 i = true ∧ Ef P L ⟨none, op, ty, pos, af, g⟩ w R ∧
      ∀ v w', R v w' → (∀ p ∈ pend2, Know P ops L w' p) ∧ C pend2 L w')
/-- Nothing of what is to do, but one of cands, may be carried out now. -/
def okB (ops : Array Oper) (cands todo : List Nat) : Bool := todo.all fun j => cands.contains j || (match ops[j]? with | some o => todo.any (fun s => depOn o s) | none => false)
def Plan (P : Program) (ops : Array Oper) (n : Nat) (Q : Exit → Act → World → Prop) : Nat → List Nat → List Nat → List (Nat × Value) → World → Prop
  | 0, todo, _, L, w => todo = [] ∧ ∀ a, Fr n a L → Q .normal a w
  | m + 1, todo, pend, L, w =>
    (∃ i r d v, i ∈ todo ∧ todo.erase i = r ∧ dstOf ops i = some d ∧ d < n ∧ lk L d = none ∧ okP ops pend i = true ∧ Know P ops ((d, v) :: L) w i ∧ (∀ p ∈ pend, Know P ops ((d, v) :: L) w p) ∧ Plan P ops n Q m r (i :: pend) ((d, v) :: L) w) ∨
    (todo ≠ [] ∧ ∃ cands, okB ops cands todo = true ∧ ∀ i ∈ cands, i ∈ todo ∧ EffStep P ops n (fun pend2 L' w' => Plan P ops n Q m (todo.erase i) pend2 L' w') pend L w i)

theorem EffStep.imp {ops : Array Oper} {C C' : List Nat → List (Nat × Value) → World → Prop} {pend : List Nat} {L : List (Nat × Value)} {w : World} {i : Nat} (hC : ∀ p L w, C p L w → C' p L w) (h : EffStep P ops n C pend L w i) : EffStep P ops n C' pend L w i := by
  rcases h with ⟨a, b, c, d, e, f, g, R, h1, h2, h3, h4, h5, h6⟩ | ⟨a, b, c, d, e, f, R, h1, h2, h3, h4, h5⟩
  · exact .inl ⟨a, b, c, d, e, f, g, R, h1, h2, h3, h4, h5, fun v w' hR => ⟨(h6 v w' hR).1, hC _ _ _ (h6 v w' hR).2⟩⟩
  · exact .inr ⟨a, b, c, d, e, f, R, h1, h2, h3, h4, fun v w' hR => ⟨(h5 v w' hR).1, hC _ _ _ (h5 v w' hR).2⟩⟩
theorem okB_perm {ops : Array Oper} {cands todo todo' : List Nat} (hp : todo.Perm todo') (h : okB ops cands todo = true) : okB ops cands todo' = true := by
  unfold okB at h ⊢
  rw [List.all_eq_true] at h ⊢
  intro j hj
  have := h j (hp.mem_iff.2 hj)
  simp only [Bool.or_eq_true] at this ⊢
  rcases this with h1 | h1
  · exact .inl h1
  · right
    cases ho : ops[j]? with
    | none => simp [ho] at h1
    | some o =>
      simp only [ho] at h1 ⊢
      obtain ⟨s, hs, h2⟩ := List.any_eq_true.1 h1
      exact List.any_eq_true.2 ⟨s, hp.mem_iff.1 hs, h2⟩
theorem Plan.perm {ops : Array Oper} : ∀ {m : Nat} {todo todo' pend : List Nat} {L : List (Nat × Value)} {w : World}, todo.Perm todo' → Plan P ops n Q m todo pend L w → Plan P ops n Q m todo' pend L w
  | 0, _, _, _, _, _, hp, ⟨h1, h2⟩ => ⟨by subst h1; exact hp.nil_eq.symm, h2⟩
  | m + 1, _, _, _, _, _, hp, .inl ⟨i, r, d, v, hm, hr, h1, h2, h3, h4, h5, h6, h7⟩ => .inl ⟨i, _, d, v, hp.mem_iff.1 hm, rfl, h1, h2, h3, h4, h5, h6, Plan.perm (hr ▸ hp.erase i) h7⟩
  | m + 1, _, _, _, _, _, hp, .inr ⟨hne, cands, hB, hC⟩ => .inr ⟨fun e => hne (by subst e; exact hp.eq_nil), cands, okB_perm hp hB, fun i hi => ⟨hp.mem_iff.1 (hC i hi).1, (hC i hi).2.imp fun _ _ _ h => Plan.perm (hp.erase i) h⟩⟩

def acyB (ops : List Oper) : Bool := (List.range ops.length).all fun i => match ops[i]? with
  | some o => o.after.all fun e => !Region.binds .any e || decide (e.on < i)
  | none => true

/-- Where a drawn region stands: what is done, what is pending, what is to do. -/
structure At (P : Program) (ops : Array Oper) (n : Nat) (Q : Exit → Act → World → Prop) (listed : Array Bool) (a : Act) (w : World) (m : Nat) (pend todo : List Nat) (L : List (Nat × Value)) : Prop where
  sz : listed.size = ops.size
  plan : Plan P ops n Q m todo pend L w
  know : ∀ p ∈ pend, Know P ops L w p
  td : ∀ i ∈ todo, i < ops.size ∧ listed.getD i true = false
  rest : ∀ i, i < ops.size → i ∉ todo → i ∉ pend → listed.getD i true = true
  nd : todo.Nodup ∧ ∀ p ∈ pend, p ∉ todo
  dn : ∀ p ∈ pend, ∀ d, dstOf ops p = some d → d < a.tmps.size
  defers : a.defers = []
  size : a.tmps.size = n
  fr : ∀ t v, lk L t = some v → (∀ p ∈ pend, listed.getD p true = false → dstOf ops p ≠ some t) → a.tmps[t]? = some v
  okl : ∀ p ∈ pend, ∀ q ∈ pend, ∀ o t, ops[p]? = some o → dstOf ops q = some t → looks ops o t = true → depOn o q = true
  dst : ∀ p ∈ pend, ∀ q ∈ pend, p ≠ q → dstOf ops p ≠ dstOf ops q

theorem plan_go {ops : Array Oper} (hac : ∀ i o, ops[i]? = some o → ∀ e ∈ o.after, Region.binds .any e = true → e.on < i) :
    ∀ (m : Nat) (pend todo : List Nat) (L : List (Nat × Value)) (listed : Array Bool) (a : Act) (w : World), At P ops n Q listed a w m pend todo L → ∃ m' pend' todo' L', At P ops n Q listed a w m' pend' todo' L' ∧ ((todo' = [] ∧ ∀ a, Fr n a L' → Q .normal a w) ∨
      (todo' ≠ [] ∧ ∃ mm cands, okB ops cands todo' = true ∧ ∀ i ∈ cands, i ∈ todo' ∧ EffStep P ops n (fun pend2 L' w' => Plan P ops n Q mm (todo'.erase i) pend2 L' w') pend' L' w i)) := by
  intro m
  induction m with
  | zero => intro pend todo L listed a w h; exact ⟨0, pend, todo, L, h, .inl h.plan⟩
  | succ m ih =>
    intro pend todo L listed a w h
    rcases h.plan with ⟨i, r, d, v, hmem, rfl, h1, h2, h3, h4, h5, h6, h7⟩ | ⟨hne, cands, hB, hC⟩
    case inr => exact ⟨m + 1, pend, todo, L, h, .inr ⟨hne, m, cands, hB, hC⟩⟩
    case inl =>
      have hi := h.td i hmem
      have hme : ∀ {j}, j ∈ todo.erase i ↔ j ≠ i ∧ j ∈ todo := h.nd.1.mem_erase_iff
      obtain ⟨oi, hoi⟩ : ∃ o, ops[i]? = some o := ⟨ops[i]'hi.1, by simp [hi.1]⟩
      have hoid : oi.dst = some d := by simpa [dstOf, hoi] using h1
      simp only [okP, hoi, hoid, Bool.and_eq_true, Bool.not_eq_true'] at h4
      obtain ⟨⟨g1, g2⟩, g3⟩ := h4
      have g2' := List.all_eq_true.1 g2
      have g3' := List.all_eq_true.1 g3
      refine ih (i :: pend) _ ((d, v) :: L) listed a w ⟨h.sz, h7, ?_, fun j hj => h.td j (hme.1 hj).2, ?_, ?_, ?_, h.defers, h.size, ?_, ?_, ?_⟩
      · intro p hp
        rcases List.mem_cons.1 hp with rfl | hp
        · exact h5
        · exact h6 p hp
      · intro j hj h8 h9
        exact h.rest j hj (fun h10 => h8 (hme.2 ⟨fun e => h9 (e ▸ List.mem_cons_self ..), h10⟩)) (fun h10 => h9 (List.mem_cons_of_mem _ h10))
      · refine ⟨h.nd.1.erase i, ?_⟩
        intro p hp
        rcases List.mem_cons.1 hp with rfl | hp
        · exact fun h10 => (hme.1 h10).1 rfl
        · exact fun h10 => h.nd.2 p hp (hme.1 h10).2
      · intro p hp d' hd'
        rcases List.mem_cons.1 hp with rfl | hp2
        · rw [h1] at hd'; injection hd' with hd'; subst hd'; rw [h.size]; exact h2
        · exact h.dn p hp2 d' hd'
      · intro t u ht hn
        have hne : d ≠ t := fun e => hn i (List.mem_cons_self ..) hi.2 (by rw [h1, e])
        refine h.fr t u ?_ (fun p hp hl => hn p (List.mem_cons_of_mem _ hp) hl)
        simp only [lk] at ht
        cases e : Nat.beq d t with
        | true => exact absurd (Nat.eq_of_beq_eq_true e) hne
        | false => rw [e] at ht; exact ht
      · intro p hp q hq o t ho hqt hlk
        rcases List.mem_cons.1 hp with rfl | hp2 <;> rcases List.mem_cons.1 hq with rfl | hq2
        · rw [h1] at hqt; injection hqt with hqt; subst hqt; rw [hoi] at ho; injection ho with ho; subst ho; rw [g1] at hlk; cases hlk
        · have := g3' q hq2
          rw [hoi] at ho; injection ho with ho; subst ho
          simp only [hqt, Bool.or_eq_true, Bool.not_eq_true', hlk] at this
          simpa using this
        · have := g2' p hp2
          simp only [ho, Bool.and_eq_true, Bool.not_eq_true'] at this
          rw [h1] at hqt; injection hqt with hqt; subst hqt
          rw [this.1] at hlk; cases hlk
        · exact h.okl p hp2 q hq2 o t ho hqt hlk
      · intro p hp q hq hpq
        rcases List.mem_cons.1 hp with rfl | hp2 <;> rcases List.mem_cons.1 hq with rfl | hq2
        · exact absurd rfl hpq
        · intro e
          have := g2' q hq2
          cases ho : ops[q]? with
          | none => simp [dstOf, ho, hoi, hoid] at e
          | some o =>
            simp only [ho, Bool.and_eq_true] at this
            rw [h1] at e
            have : o.dst ≠ some d := by simpa using this.2
            exact this (by simpa [dstOf, ho] using e.symm)
        · intro e
          have := g2' p hp2
          cases ho : ops[p]? with
          | none => simp [dstOf, ho, hoi, hoid] at e
          | some o =>
            simp only [ho, Bool.and_eq_true] at this
            rw [h1] at e
            have : o.dst ≠ some d := by simpa using this.2
            exact this (by simpa [dstOf, ho] using e)
        · exact h.dst p hp2 q hq2 hpq

/-- A pending operation, as the machine carries it out. -/
theorem Know.does {ops : Array Oper} {L : List (Nat × Value)} {w : World} {i : Nat} {listed : Array Bool} {a : Act} {pend : List Nat} (h : Know P ops L w i) (hac : ∀ i o, ops[i]? = some o → ∀ e ∈ o.after, Region.binds .any e = true → e.on < i)
    (fr : ∀ t v, lk L t = some v → (∀ p ∈ pend, listed.getD p true = false → dstOf ops p ≠ some t) → a.tmps[t]? = some v)
    (hok : ∀ o t, ops[i]? = some o → looks ops o t = true → ∀ p ∈ pend, listed.getD p true = false → dstOf ops p ≠ some t) {K : Act → World → Prop}
    (k : ∀ d v, dstOf ops i = some d → lk L d = some v → K (a.put (some d) v) w) : wpOp P ops Q i K a w := by
  obtain ⟨o, d, v, ho, hd, hv, hsel, hg⟩ := h
  have hk := k d v (by simp [dstOf, ho, hd]) hv
  unfold wpOp
  simp only [ho]
  have hrun : Pu P L o w v → o.wp P a w K Q := by
    intro hpu
    have hr : (execOp a.eval o).run P w = .ok (.value v) w := by
      refine hpu.run_of ?_ ?_ (fun _ => rfl) (fun _ => rfl) (fun _ => rfl)
      · intro cs b e; rw [e] at hsel; cases hsel
      · intro t u ht hu
        have := fr t u hu (hok o t ho (by simp only [looks, Bool.or_eq_true]; exact .inl (by simpa using ht)))
        simp [Act.eval, this]
    unfold Oper.wp
    rw [hr]
    simp only [Oper.upon, hd]
    exact hk
  cases hgd : o.guard with
  | none =>
    rw [hgd] at hg
    rw [if_pos (by simp [Region.wanted, hgd])]
    exact .inl (hrun hg)
  | some jb =>
    obtain ⟨j, b⟩ := jb
    rw [hgd] at hg
    obtain ⟨t, u, hj, ht, h1, h2⟩ := hg
    have hfr := fr t _ ht (hok o t ho (by simp only [looks, hgd, Bool.or_eq_true]; exact .inr (by simpa [dstOf] using hj)))
    by_cases hb : u = .bool b
    · have hy : yielded ops a.tmps j = some b := by
        unfold yielded; rw [hj]; simp [hfr, hb]
      rw [if_pos (by simp [Region.wanted, hgd, hy])]
      exact .inl (hrun (h1 hb))
    · have hy : yielded ops a.tmps j ≠ some b := by
        unfold yielded; rw [hj]
        simp only [Option.bind_some, hfr]
        cases u <;> simp at hb ⊢
        exact hb
      rw [if_neg (by simp [Region.wanted, hgd, hy])]
      rw [hd, ← h2 hb]
      exact hk

def unl (listed : Array Bool) : Nat := (listed.toList.filter (fun b => !b)).length
theorem unl_set {listed : Array Bool} {i : Nat} (hi : i < listed.size) (h : listed.getD i true = false) : unl (listed.setIfInBounds i true) + 1 = unl listed := by
  unfold unl
  rw [Array.toList_setIfInBounds]
  have h0 : listed.toList[i]? = some false := by
    have : listed[i]? = some listed[i] := by simp [hi]
    have h2 : listed[i] = false := by simpa [Array.getD, hi] using h
    simp [hi, h2]
  have : ∀ (l : List Bool) (i : Nat), l[i]? = some false → ((l.set i true).filter (fun b => !b)).length + 1 = (l.filter (fun b => !b)).length := by
    intro l
    induction l with
    | nil => intro i h; simp at h
    | cons x l ih =>
      intro i h
      cases i with
      | zero => simp at h; subst h; simp
      | succ i => simp at h; have := ih i h; cases x <;> simp <;> omega
  exact this _ _ h0
theorem getD_set {listed : Array Bool} {i j : Nat} (hi : i < listed.size) : (listed.setIfInBounds i true).getD j true = if j = i then true else listed.getD j true := by
  by_cases h : j = i
  · subst h; simp [Array.getD, hi]
  · simp only [Array.getD_eq_getD_getElem?, Array.getElem?_setIfInBounds_ne (Ne.symm h), if_neg h]
theorem unl_zero {listed : Array Bool} (h : unl listed = 0) (i : Nat) (hi : i < listed.size) : listed.getD i true = true := by
  unfold unl at h
  have h1 : listed.toList.filter (fun b => !b) = [] := List.eq_nil_of_length_eq_zero h
  have := List.filter_eq_nil_iff.1 h1 listed[i] (by simp)
  simpa [Array.getD, hi] using this

theorem Ef.of {L : List (Nat × Value)} {o : Oper} {w : World} {R : Value → World → Prop} (h : Ef P L o w R) (hs : ∀ cs b, o.op ≠ .select cs b) {a : Act} (hρ : ∀ t u, t ∈ tmpsOf o → lk L t = some u → a.tmps[t]? = some u) : Does P o a.eval w R := by
  let ρ' : Operand → Value := fun x => match ev L x with
    | some u => u
    | none => a.eval x
  have h1 : Ag ρ' L := fun x u hx => by simp only [ρ', hx]
  have h2 := h ρ' h1
  unfold Does at h2 ⊢
  have e : execOp a.eval o = execOp ρ' o := by
    refine execOp_congr o hs ?_
    intro x hx
    simp only [ρ']
    cases x with
    | tmp t =>
      cases e : lk L t with
      | none => simp [ev, e]
      | some u =>
        have := hρ t u (by simp only [tmpsOf, List.mem_filterMap]; exact ⟨.tmp t, by simpa using hx, rfl⟩) e
        simp [ev, e, Act.eval, this]
    | const v' => simp [ev, Act.eval]
    | global g => simp [ev, Act.eval]
    | func f => simp [ev, Act.eval]
  rw [e]; exact h2

theorem okC_dep {ops : Array Oper} {i : Nat} : ∀ {seen r : List Nat}, okC ops i seen r = true → ∀ j ∈ r, ∃ o, ops[j]? = some o ∧ (depOn o i = true ∨ ∃ s, (s ∈ seen ∨ s ∈ r) ∧ depOn o s = true)
  | seen, [], _, j, hj => by cases hj
  | seen, x :: r, h, j, hj => by
    simp only [okC, Bool.and_eq_true] at h
    rcases List.mem_cons.1 hj with rfl | hj2
    · cases ho : ops[j]? with
      | none => rw [ho] at h; simp at h
      | some o =>
        rw [ho] at h
        simp only [Bool.or_eq_true, List.any_eq_true] at h
        rcases h.1 with h1 | ⟨s, hs, h1⟩
        · exact ⟨o, rfl, .inl h1⟩
        · exact ⟨o, rfl, .inr ⟨s, .inl hs, h1⟩⟩
    · obtain ⟨o, ho, h1⟩ := okC_dep h.2 j hj2
      refine ⟨o, ho, h1.imp id ?_⟩
      rintro ⟨s, hs, h2⟩
      refine ⟨s, ?_, h2⟩
      rcases hs with hs | hs
      · rcases List.mem_append.1 hs with hs | hs
        · exact .inl hs
        · simp at hs; subst hs; exact .inr (List.mem_cons_self ..)
      · exact .inr (List.mem_cons_of_mem _ hs)

/-- The next effect is carried out. -/
theorem At.eff {ops : Array Oper} {listed : Array Bool} {a : Act} {w : World} {m mm : Nat} {pend pend2 todo : List Nat} {L : List (Nat × Value)} {i : Nat} {dst : Option Nat} {op : Op} {ty : TypeId} {pos : String} {af : Array Edge} {g : Option (Nat × Bool)} {R : Value → World → Prop}
    (h : At P ops n Q listed a w m pend todo L) (hit : i ∈ todo) (ho : ops[i]? = some ⟨dst, op, ty, pos, af, g⟩) (hg : GOn ops L g) (hd : ∀ d, dst = some d → d < n) (hE : okE ops pend pend2 i = true) (hef : Ef P L ⟨dst, op, ty, pos, af, g⟩ w R)
    (hdep : ∀ p, depOn ⟨dst, op, ty, pos, af, g⟩ p = true → listed.getD p true = true)
    {L' : Value → List (Nat × Value)} (hL : ∀ v, L' v = match dst with | some d => (d, v) :: L | none => L)
    (hk : ∀ v w', R v w' → (∀ p ∈ pend2, Know P ops (L' v) w' p) ∧ Plan P ops n Q mm (todo.erase i) pend2 (L' v) w') {K : Act → World → Prop}
    (k : ∀ v w', R v w' → At P ops n Q (listed.setIfInBounds i true) (a.put dst v) w' mm pend2 (todo.erase i) (L' v) → K (a.put dst v) w') : wpOp P ops Q i K a w := by
  simp only [okE, ho, Bool.and_eq_true] at hE
  obtain ⟨⟨⟨⟨e0, e1⟩, e2⟩, e3⟩, e4⟩ := hE
  have e1' := List.all_eq_true.1 e1
  have e2' := List.all_eq_true.1 e2
  have e3' := List.all_eq_true.1 e3
  have hi := h.td i hit
  have hme : ∀ {j}, j ∈ todo.erase i ↔ j ≠ i ∧ j ∈ todo := h.nd.1.mem_erase_iff
  have hls : i < listed.size := by rw [h.sz]; exact hi.1
  have hin : ∀ p ∈ pend, listed.getD p true = false → p ∈ pend2 := by
    intro p hp hl
    have := e1' p hp
    simp only [Bool.or_eq_true] at this
    rcases this with h1 | h1
    · simpa using h1
    · rw [hdep p h1] at hl; cases hl
  have hsub : ∀ p ∈ pend2, p ∈ pend := fun p hp => by simpa using e2' p hp
  have hw : Region.wanted ⟨dst, op, ty, pos, af, g⟩ (yielded ops a.tmps) = true := by
    cases g with
    | none => rfl
    | some jb =>
      obtain ⟨j, b⟩ := jb
      obtain ⟨t, hj, ht⟩ := hg
      have h1 := h.fr t _ ht fun p hp hl hpd => by
        have := e3' p (hin p hp hl)
        rw [hpd] at this
        simp only [Bool.not_eq_true', looks, Bool.or_eq_false_iff] at this
        have h2 := this.2
        simp only [dstOf, hj] at h2
        simp at h2
      have hy : yielded ops a.tmps j = some b := by unfold yielded; rw [hj]; simp [h1]
      simp [Region.wanted, hy]
  unfold wpOp
  simp only [ho]
  rw [if_pos hw]
  refine .inl (does_wp (hef.of ?_ ?_) ?_)
  · intro cs b e; simp only at e; rw [e] at e0; cases e0
  · intro t u ht hu
    refine h.fr t u hu fun p hp hl hpd => ?_
    have := e3' p (hin p hp hl)
    rw [hpd] at this
    simp only [Bool.not_eq_true', looks, Bool.or_eq_false_iff] at this
    have h2 := this.1
    rw [List.contains_iff_mem.2 ht] at h2; cases h2
  · intro v w' hR
    obtain ⟨k1, k2⟩ := hk v w' hR
    refine k v w' hR ⟨by simpa using h.sz, k2, k1, ?_, ?_, ?_, ?_, ?_, ?_, ?_, fun p hp q hq => h.okl p (hsub p hp) q (hsub q hq), fun p hp q hq => h.dst p (hsub p hp) q (hsub q hq)⟩
    · intro j hj
      have h1 := h.td j (hme.1 hj).2
      refine ⟨h1.1, ?_⟩
      rw [getD_set hls, if_neg (hme.1 hj).1]; exact h1.2
    · intro j hj h1 h2
      rw [getD_set hls]
      split
      · rfl
      · rename_i hne
        by_cases hp : j ∈ pend
        · have := e1' j hp
          simp only [Bool.or_eq_true] at this
          rcases this with h3 | h3
          · exact absurd (by simpa using h3) h2
          · exact hdep j h3
        · exact h.rest j hj (fun h3 => h1 (hme.2 ⟨hne, h3⟩)) hp
    · exact ⟨h.nd.1.erase i, fun p hp h1 => h.nd.2 p (hsub p hp) (hme.1 h1).2⟩
    · intro p hp d' hd'
      have := h.dn p (hsub p hp) d' hd'
      cases dst <;> simpa [Act.put] using this
    · cases dst <;> simp [Act.put, h.defers]
    · cases dst <;> simp [Act.put, h.size]
    · intro t u ht hn
      rw [hL v] at ht
      have old : lk L t = some u → a.tmps[t]? = some u := fun h1 => h.fr t u h1 fun p hp hl => hn p (hin p hp hl) (by rw [getD_set hls, if_neg (fun (e : p = i) => h.nd.2 p hp (e ▸ hit))]; exact hl)
      cases dst with
      | none => exact old ht
      | some d =>
        simp only [lk] at ht
        cases e : Nat.beq d t with
        | true =>
          have e' := Nat.eq_of_beq_eq_true e
          subst e'
          simp at ht
          subst ht
          simp [Act.put, h.size, hd d rfl]
        | false =>
          rw [e] at ht
          have hne : d ≠ t := fun e1 => by subst e1; simp at e
          simp [Act.put, Array.getElem?_setIfInBounds_ne hne, old ht]

theorem plan_sound {ops : Array Oper} (hac : ∀ i o, ops[i]? = some o → ∀ e ∈ o.after, Region.binds .any e = true → e.on < i) :
    ∀ (fuel : Nat) (listed : Array Bool) (a : Act) (w : World) (m : Nat) (pend todo : List Nat) (L : List (Nat × Value)), At P ops n Q listed a w m pend todo L → unl listed ≤ fuel → wpAny P .any ops Q fuel listed a w := by
  intro fuel
  have base : ∀ (listed : Array Bool) (a : Act) (w : World) (m : Nat) (pend todo : List Nat) (L : List (Nat × Value)), At P ops n Q listed a w m pend todo L → Region.ready .any ops listed = [] → Q .normal a w := by
    intro listed a w m pend todo L h hr
    -- nothing is ready: all is listed
    have all : ∀ i, i < ops.size → listed.getD i true = true := by
      intro i
      induction i using Nat.strongRecOn with
      | _ i ih =>
        intro hi
        cases hl : listed.getD i true with
        | true => rfl
        | false =>
          exfalso
          have : i ∈ Region.ready .any ops listed := mem_ready.2 ⟨hi, hl, ops[i], by simp [hi], fun e he hb => by
            have hlt := hac i ops[i] (by simp [hi]) e he hb
            have := ih e.on hlt (by omega)
            have hs : e.on < listed.size := by rw [h.sz]; omega
            simpa [Array.getD, hs] using this⟩
          rw [hr] at this; cases this
    obtain ⟨m', pend', todo', L', h', hc⟩ := plan_go hac m pend todo L listed a w h
    rcases hc with ⟨rfl, hend⟩ | ⟨hne, _⟩
    · refine hend a ⟨h'.defers, h'.size, fun t v ht => h'.fr t v ht fun p hp hl => ?_⟩
      by_cases hlt : p < ops.size
      · rw [all p hlt] at hl; cases hl
      · obtain ⟨o, d, v, ho, _⟩ := h'.know p hp
        simp [Array.getElem?_eq_none (by omega : ops.size ≤ p)] at ho
    · obtain ⟨i, hi⟩ := List.exists_mem_of_ne_nil _ hne
      have := h'.td i hi
      rw [all i this.1] at this; cases this.2
  induction fuel with
  | zero =>
    intro listed a w m pend todo L h hu
    have hr : Region.ready .any ops listed = [] := by
      apply List.eq_nil_iff_forall_not_mem.2
      intro i hi
      obtain ⟨h1, h2, _⟩ := mem_ready.1 hi
      rw [unl_zero (by omega) i (by rw [h.sz]; exact h1)] at h2; cases h2
    exact ⟨hr, base listed a w m pend todo L h hr⟩
  | succ fuel ih =>
    intro listed a w m pend todo L h hu
    refine ⟨base listed a w m pend todo L h, ?_⟩
    intro i hi
    obtain ⟨hlt, hun, o, ho, hdeps⟩ := mem_ready.1 hi
    have hls : i < listed.size := by rw [h.sz]; exact hlt
    have hcnt := unl_set hls hun
    obtain ⟨m', pend', todo', L', h', hc⟩ := plan_go hac m pend todo L listed a w h
    have hdep : ∀ p, depOn o p = true → listed.getD p true = true := by
      intro p hp
      obtain ⟨e, he, hon, hb⟩ := depOn_spec hp
      have := hdeps e he hb
      rw [hon] at this
      by_cases hs : p < listed.size
      · simpa [Array.getD, hs] using this
      · simp [Array.getD, hs]
    by_cases hip : i ∈ pend'
    · -- a pending one
      have hkn := h'.know i hip
      refine hkn.does hac h'.fr ?_ ?_
      · intro o' t ho' hlk p hp hl hd
        have := h'.okl i hip p hp o' t ho' hd hlk
        rw [ho] at ho'; injection ho' with ho'; subst ho'
        rw [hdep p this] at hl; cases hl
      · intro d v hd hv
        refine ih _ _ _ m' pend' todo' L' ⟨by simpa using h'.sz, h'.plan, h'.know, ?_, ?_, h'.nd, ?_, ?_, ?_, ?_, h'.okl, h'.dst⟩ (by omega)
        · intro j hj
          have := h'.td j hj
          refine ⟨this.1, ?_⟩
          rw [getD_set hls, if_neg (fun (e : j = i) => h'.nd.2 i hip (e ▸ hj))]; exact this.2
        · intro j hj h1 h2
          rw [getD_set hls]; split
          · rfl
          · exact h'.rest j hj h1 h2
        · intro p hp d' hd'; simpa [Act.put] using h'.dn p hp d' hd'
        · simp [Act.put, h'.defers]
        · simp [Act.put, h'.size]
        · intro t u ht hn
          by_cases hdt : d = t
          · subst hdt
            rw [hv] at ht; injection ht with ht; subst ht
            have hdn : d < a.tmps.size := h'.dn i hip d hd
            simp [Act.put, hdn]
          · have : a.tmps[t]? = some u := h'.fr t u ht fun p hp hl => by
              by_cases hpi : p = i
              · subst hpi; rw [hd]; exact fun e => hdt (Option.some.inj e)
              · exact hn p hp (by rw [getD_set hls, if_neg hpi]; exact hl)
            simp [Act.put, Array.getElem?_setIfInBounds_ne hdt, this]
    · -- the next effect
      have hit : i ∈ todo' := by
        cases Classical.em (i ∈ todo') with
        | inl h1 => exact h1
        | inr h1 => have := h'.rest i hlt h1 hip; rw [this] at hun; cases hun
      rcases hc with ⟨rfl, _⟩ | ⟨_, mm, cands, hB, hC⟩
      · cases hit
      have hic : i ∈ cands := by
        have := List.all_eq_true.1 hB i hit
        simp only [Bool.or_eq_true, ho] at this
        rcases this with h1 | h1
        · simpa using h1
        · obtain ⟨s, hs, h2⟩ := List.any_eq_true.1 h1
          have := hdep s h2
          rw [(h'.td s hs).2] at this; cases this
      rcases (hC i hic).2 with ⟨pend2, d, op, ty, pos, af, g, R, h1, hg, h2, h3, h5, h6⟩ | ⟨pend2, op, ty, pos, af, g, R, h1, hg, h3, h5, h6⟩
      · rw [ho] at h1; injection h1 with h1; subst h1
        exact h'.eff hit ho hg (fun d' hd' => by injection hd' with hd'; subst hd'; exact h2) h3 h5 hdep (L' := fun v => (d, v) :: L') (fun _ => rfl) h6 fun v w' hR hA => ih _ _ _ _ _ _ _ hA (by omega)
      · rw [ho] at h1; injection h1 with h1; subst h1
        exact h'.eff hit ho hg (fun d' hd' => by cases hd') h3 h5 hdep (L' := fun _ => L') (fun _ => rfl) h6 fun v w' hR hA => ih _ _ _ _ _ _ _ hA (by omega)

theorem wp_plan {id : Nat} {l : List Oper} {todo : List Nat} {a : Act} {w : World} {L0 : List (Nat × Value)} (hm : P.follows .mixedOrders = true) (hac : acyB l = true) (htd : ((List.range l.length).all (fun i => todo.contains i) && todo.all (fun i => decide (i < l.length)) && decide todo.Nodup) = true)
    {m : Nat} (hF : Fr n a L0) (hp : Plan P l.toArray n Q m todo [] L0 w.drew) : (Code.region id l.toArray true).wp P Q a w := by
  simp only [Bool.and_eq_true, decide_eq_true_eq] at htd
  obtain ⟨⟨h1, h2⟩, h3⟩ := htd
  have h1' := List.all_eq_true.1 h1
  have h2' := List.all_eq_true.1 h2
  refine wp_region_any hm (plan_sound ?_ _ _ _ _ m [] todo L0 ⟨by simp, hp, by simp, ?_, ?_, ⟨h3, by simp⟩, by simp, hF.d, hF.s, fun t v ht _ => hF.g t v ht, by simp, by simp⟩ ?_)
  · intro i o ho e he hb
    have hlt : i < l.length := by
      rcases Nat.lt_or_ge i l.length with h | h
      · exact h
      · simp [List.getElem?_eq_none h] at ho
    have := List.all_eq_true.1 hac i (by simpa using hlt)
    have ho' : l[i]? = some o := by simpa using ho
    rw [ho'] at this
    have := Array.all_eq_true_iff_forall_mem.1 this e he
    simpa [hb] using this
  · intro i hi
    have := h2' i hi
    have hlt : i < l.length := by simpa using this
    refine ⟨by simpa using hlt, ?_⟩
    simp [Array.getD, hlt]
  · intro i hi hn _
    exact absurd (by simpa using h1' i (by simpa using hi)) hn
  · unfold unl
    exact Nat.le_trans (List.length_filter_le _ _) (by simp)
end
end Go.Kw
