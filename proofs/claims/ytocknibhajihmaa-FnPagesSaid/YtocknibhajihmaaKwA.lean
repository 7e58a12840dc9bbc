/- A small logic over the walk: frames as lists, pure operations by explicit lemmas, control. Conditions: none. -/
import Derived.WalkKit
import Derived.Orders
namespace Go.Kw

/-! ### frames -/
def lk : List (Nat × Value) → Nat → Option Value
  | [], _ => none
  | (t, v) :: r, d => match Nat.beq t d with
    | true => some v
    | false => lk r d

structure Fr (n : Nat) (a : Act) (L : List (Nat × Value)) : Prop where
  d : a.defers = []
  s : a.tmps.size = n
  g : ∀ t v, lk L t = some v → a.tmps[t]? = some v

def ev (L : List (Nat × Value)) : Operand → Option Value
  | .tmp t => lk L t
  | .const v => some v
  | .global g => some (.pointer (some ⟨g, 0, none⟩))
  | .func f => some (.func (.func f) #[] #[])

/-- The operands' values are as the list tells. -/
def Ag (ρ : Operand → Value) (L : List (Nat × Value)) : Prop := ∀ x v, ev L x = some v → ρ x = v

theorem Fr.ag {n : Nat} {a : Act} {L : List (Nat × Value)} (h : Fr n a L) : Ag a.eval L := by
  intro x v hx
  cases x with
  | tmp t => have := h.g t v hx; simp [Act.eval, this]
  | const v' => simp [ev] at hx; simp [Act.eval, hx]
  | global g => simp [ev] at hx; simp [Act.eval, hx]
  | func f => simp [ev] at hx; simp [Act.eval, hx]

theorem Fr.put {n : Nat} {a : Act} {L : List (Nat × Value)} (h : Fr n a L) {d : Nat} (hd : d < n) (v : Value) : Fr n (a.put (some d) v) ((d, v) :: L) := by
  refine ⟨h.d, by simp [Act.put, h.s], ?_⟩
  intro t u ht
  simp only [lk] at ht
  cases e : Nat.beq d t with
  | true =>
    have e' := Nat.eq_of_beq_eq_true e
    subst e'
    simp at ht
    subst ht
    simp [Act.put, h.s, hd]
  | false =>
    have e' : d ≠ t := fun e1 => by subst e1; simp at e
    rw [e] at ht
    have := h.g t u ht
    simp [Act.put, Array.getElem?_setIfInBounds_ne e', this]

theorem Fr.put0 {n : Nat} {a : Act} {L : List (Nat × Value)} (h : Fr n a L) (v : Value) : Fr n (a.put none v) L := h

/-- A list of entries that all hold. -/
def AllLk (L : List (Nat × Value)) : List (Nat × Value) → Prop
  | [] => True
  | (t, v) :: r => lk L t = some v ∧ AllLk L r

theorem allLk_lk {L : List (Nat × Value)} : ∀ {L' : List (Nat × Value)}, AllLk L L' → ∀ t v, lk L' t = some v → lk L t = some v
  | [], _, t, v, h => by simp [lk] at h
  | (t0, v0) :: r, hA, t, v, h => by
    simp only [lk] at h
    cases e : Nat.beq t0 t with
    | true =>
      have e' := Nat.eq_of_beq_eq_true e
      subst e'
      simp at h
      subst h
      exact hA.1
    | false => rw [e] at h; exact allLk_lk hA.2 t v h

theorem Fr.cut {n : Nat} {a : Act} {L L' : List (Nat × Value)} (h : Fr n a L) (hA : AllLk L L') : Fr n a L' :=
  ⟨h.d, h.s, fun t v ht => h.g t v (allLk_lk hA t v ht)⟩

/-- At a function's entry. -/
theorem Fr.enter (args : Array Value) (n : Nat) (L : List (Nat × Value)) (hn : args.size ≤ n) (hL : ∀ t v, lk L t = some v → args[t]? = some v) :
    Fr n { tmps := args ++ Array.replicate (n - args.size) undef, defers := [] } L := by
  refine ⟨rfl, by simp; omega, ?_⟩
  intro t v ht
  have := hL t v ht
  have hlt : t < args.size := by
    rcases Nat.lt_or_ge t args.size with h | h
    · exact h
    · simp [Array.getElem?_eq_none h] at this
  simp [Array.getElem?_append_left hlt, this]

/-! ### what an operation does -/
def Does (P : Program) (o : Oper) (ρ : Operand → Value) (w : World) (R : Value → World → Prop) : Prop :=
  match (execOp ρ o).run P w with
  | .ok (.value v) w' => R v w'
  | .ok .skip w' => R undef w'
  | .ok (.enter f args) w' => Calls P f args w' fun e w'' => ∃ v, e = .returned v ∧ R v w''
  | _ => False

theorem Does.mono {P : Program} {o : Oper} {ρ : Operand → Value} {w : World} {R R' : Value → World → Prop} (h : Does P o ρ w R) (k : ∀ v w', R v w' → R' v w') : Does P o ρ w R' := by
  unfold Does at *
  generalize (execOp ρ o).run P w = r at *
  cases r with
  | halt x w' => exact h
  | ok n w' =>
    cases n <;> simp only at h ⊢
    case value v => exact k _ _ h
    case skip => exact k _ _ h
    case enter f args => exact Calls.mono h fun e w'' ⟨v, he, hv⟩ => ⟨v, he, k _ _ hv⟩

theorem does_wp {P : Program} {o : Oper} {a : Act} {w : World} {R : Value → World → Prop} {K : Act → World → Prop} {Q : Exit → Act → World → Prop}
    (h : Does P o a.eval w R) (k : ∀ v w', R v w' → K (a.put o.dst v) w') : o.wp P a w K Q := by
  unfold Does at h
  unfold Oper.wp
  generalize (execOp a.eval o).run P w = r at *
  cases r with
  | halt x w' => exact h.elim
  | ok n w' =>
    cases n <;> simp only at h <;> simp only [Oper.upon]
    case value v => exact k _ _ h
    case skip => exact k _ _ h
    case enter f args => exact Calls.mono h fun e w'' ⟨v, he, hv⟩ => by subst he; exact k _ _ hv

/-- A pure operation: its value, the world as it was. -/
def Pu (P : Program) (L : List (Nat × Value)) (o : Oper) (w : World) (v : Value) : Prop :=
  ∀ ρ, Ag ρ L → (execOp ρ o).run P w = .ok (.value v) w

theorem Pu.does {P : Program} {L : List (Nat × Value)} {o : Oper} {w : World} {v : Value} (h : Pu P L o w v) {ρ : Operand → Value} (hρ : Ag ρ L) : Does P o ρ w fun v' w' => v' = v ∧ w' = w := by
  unfold Does; rw [h ρ hρ]; exact ⟨rfl, rfl⟩

/-- An operation with an effect. -/
def Ef (P : Program) (L : List (Nat × Value)) (o : Oper) (w : World) (R : Value → World → Prop) : Prop :=
  ∀ ρ, Ag ρ L → Does P o ρ w R

theorem Ef.mono {P : Program} {L : List (Nat × Value)} {o : Oper} {w : World} {R R' : Value → World → Prop} (h : Ef P L o w R) (k : ∀ v w', R v w' → R' v w') : Ef P L o w R' :=
  fun ρ hρ => (h ρ hρ).mono k

section
variable {P : Program} {ops : Array Oper} {Q : Exit → Act → World → Prop} {rest : List Oper} {n : Nat} {a : Act} {L : List (Nat × Value)} {w : World}

theorem stp {d : Nat} {op : Op} {ty : TypeId} {pos : String} {af : Array Edge} {v : Value} (hF : Fr n a L) (h : Pu P L ⟨some d, op, ty, pos, af, none⟩ w v) (hd : d < n)
    (k : ∀ a, Fr n a ((d, v) :: L) → wpList P ops Q rest a w) : wpList P ops Q (⟨some d, op, ty, pos, af, none⟩ :: rest) a w := by
  refine wpList_plain rfl fun K hK => does_wp (h.does hF.ag) ?_
  rintro v' w' ⟨rfl, rfl⟩
  exact hK _ _ (k _ (hF.put hd _))

theorem ste {d : Nat} {op : Op} {ty : TypeId} {pos : String} {af : Array Edge} {R : Value → World → Prop} (hF : Fr n a L) (h : Ef P L ⟨some d, op, ty, pos, af, none⟩ w R) (hd : d < n)
    (k : ∀ v w' a, R v w' → Fr n a ((d, v) :: L) → wpList P ops Q rest a w') : wpList P ops Q (⟨some d, op, ty, pos, af, none⟩ :: rest) a w := by
  refine wpList_plain rfl fun K hK => does_wp (h _ hF.ag) ?_
  intro v' w' hR
  exact hK _ _ (k _ _ _ hR (hF.put hd _))

theorem ste0 {op : Op} {ty : TypeId} {pos : String} {af : Array Edge} {R : Value → World → Prop} (hF : Fr n a L) (h : Ef P L ⟨none, op, ty, pos, af, none⟩ w R)
    (k : ∀ v w' a, R v w' → Fr n a L → wpList P ops Q rest a w') : wpList P ops Q (⟨none, op, ty, pos, af, none⟩ :: rest) a w := by
  refine wpList_plain rfl fun K hK => does_wp (h _ hF.ag) ?_
  intro v' w' hR
  exact hK _ _ (k _ _ _ hR (hF.put0 _))

/-- A guard that wants it: j is the guard's slot. -/
theorem gon {o : Oper} {j t : Nat} {b : Bool} (hF : Fr n a L) (hg : o.guard = some (j, b)) (hj : (ops[j]?).bind (·.dst) = some t) (ht : lk L t = some (.bool b))
    (k : wpList P ops Q ({ o with guard := none } :: rest) a w) : wpList P ops Q (o :: rest) a w := by
  have hy : yielded ops a.tmps j = some b := by
    have h1 := hF.g t _ ht
    unfold yielded
    rw [hj]
    simp [h1]
  have hw : Region.wanted o (yielded ops a.tmps) = true := by simp [Region.wanted, hg, hy]
  have h1 : Region.wanted { o with guard := none } (yielded ops a.tmps) = true := rfl
  unfold wpList at k ⊢
  rw [if_pos h1] at k
  rw [if_pos hw]
  exact k

/-- A guard that does not. -/
theorem gof {op : Op} {ty : TypeId} {pos : String} {af : Array Edge} {dst : Option Nat} {j t : Nat} {b b' : Bool} (hF : Fr n a L) (hj : (ops[j]?).bind (·.dst) = some t) (ht : lk L t = some (.bool b')) (hb : b' ≠ b)
    (k : ∀ a, Fr n a L → wpList P ops Q rest a w) (hd : ∀ d, dst = some d → lk L d = none) : wpList P ops Q (⟨dst, op, ty, pos, af, some (j, b)⟩ :: rest) a w := by
  have hy : yielded ops a.tmps j = some b' := by
    have h1 := hF.g t _ ht
    unfold yielded
    rw [hj]
    simp [h1]
  have hw : Region.wanted ⟨dst, op, ty, pos, af, some (j, b)⟩ (yielded ops a.tmps) = false := by simp [Region.wanted, hy, hb]
  unfold wpList
  rw [if_neg (by simp [hw])]
  refine k _ ?_
  cases dst with
  | none => exact hF
  | some d =>
    refine ⟨hF.d, by simp [Act.put, hF.s], ?_⟩
    intro t' u hu
    have h1 := hF.g t' u hu
    have h2 := hd d rfl
    have hne : d ≠ t' := fun e => by subst e; rw [h2] at hu; cases hu
    simp [Act.put, Array.getElem?_setIfInBounds_ne hne, h1]

theorem lnil (hF : Fr n a L) (k : ∀ a, Fr n a L → Q .normal a w) : wpList P ops Q [] a w := wpList_nil (k a hF)
end

/-! ### pure operations on scalars -/
section
variable {P : Program} {L : List (Nat × Value)} {w : World} {d : Option Nat} {ty : TypeId} {pos : String} {af : Array Edge} {g : Option (Nat × Bool)}

theorem p_move {x : Operand} {v : Value} (hx : ev L x = some v) : Pu P L ⟨d, .move x, ty, pos, af, g⟩ w v := by
  intro ρ hρ; simp [execOp, hρ x v hx]
theorem p_assign {x : Operand} {v : Value} (hx : ev L x = some v) : Pu P L ⟨d, .assign x, ty, pos, af, g⟩ w v := by
  intro ρ hρ; simp [execOp, hρ x v hx]
theorem p_pick {c x y : Operand} {b : Bool} {u v : Value} (hc : ev L c = some (.bool b)) (hx : b = true → ev L x = some u) (hy : b = false → ev L y = some v) :
    Pu P L ⟨d, .pick c x y, ty, pos, af, g⟩ w (bif b then u else v) := by
  intro ρ hρ
  cases b with
  | true => simp [execOp, hρ c _ hc, asBool, hρ x _ (hx rfl)]
  | false => simp [execOp, hρ c _ hc, asBool, hρ y _ (hy rfl)]
theorem p_nilck {x : Operand} {ad : Addr} (hx : ev L x = some (.pointer (some ad))) : Pu P L ⟨d, .nilCheck x, ty, pos, af, g⟩ w (.pointer (some ad)) := by
  intro ρ hρ; simp [execOp, hρ x _ hx]

theorem p_add {x y : Operand} {xt yt : TypeId} {k : IntKind} {a b c : Int} (hx : ev L x = some (.int k a)) (hy : ev L y = some (.int k b)) (hv : k.wrap (a + b) = c) :
    Pu P L ⟨d, .binOp .add xt x y yt, ty, pos, af, g⟩ w (.int k c) := by
  intro ρ hρ; simp [execOp, hρ x _ hx, hρ y _ hy, eqGuard, binOp, Op.intArith, hv]
theorem p_sub {x y : Operand} {xt yt : TypeId} {k : IntKind} {a b c : Int} (hx : ev L x = some (.int k a)) (hy : ev L y = some (.int k b)) (hv : k.wrap (a - b) = c) :
    Pu P L ⟨d, .binOp .sub xt x y yt, ty, pos, af, g⟩ w (.int k c) := by
  intro ρ hρ; simp [execOp, hρ x _ hx, hρ y _ hy, eqGuard, binOp, Op.intArith, hv]
theorem p_mul {x y : Operand} {xt yt : TypeId} {k : IntKind} {a b c : Int} (hx : ev L x = some (.int k a)) (hy : ev L y = some (.int k b)) (hv : k.wrap (a * b) = c) :
    Pu P L ⟨d, .binOp .mul xt x y yt, ty, pos, af, g⟩ w (.int k c) := by
  intro ρ hρ; simp [execOp, hρ x _ hx, hρ y _ hy, eqGuard, binOp, Op.intArith, hv]
theorem p_quo {x y : Operand} {xt yt : TypeId} {k : IntKind} {a b c : Int} (hx : ev L x = some (.int k a)) (hy : ev L y = some (.int k b)) (h0 : ¬ b = 0) (hv : k.wrap (a.tdiv b) = c) :
    Pu P L ⟨d, .binOp .quo xt x y yt, ty, pos, af, g⟩ w (.int k c) := by
  intro ρ hρ; simp [execOp, hρ x _ hx, hρ y _ hy, eqGuard, binOp, Op.intDiv, hv, h0]
theorem p_rem {x y : Operand} {xt yt : TypeId} {k : IntKind} {a b c : Int} (hx : ev L x = some (.int k a)) (hy : ev L y = some (.int k b)) (h0 : ¬ b = 0) (hv : a.tmod b = c) :
    Pu P L ⟨d, .binOp .rem xt x y yt, ty, pos, af, g⟩ w (.int k c) := by
  intro ρ hρ; simp [execOp, hρ x _ hx, hρ y _ hy, eqGuard, binOp, Op.intDiv, hv, h0]

def band (k : IntKind) (a b : Int) : Int := k.wrap ((BitVec.ofInt k.bits a &&& BitVec.ofInt k.bits b).toNat : Nat)
def bor (k : IntKind) (a b : Int) : Int := k.wrap ((BitVec.ofInt k.bits a ||| BitVec.ofInt k.bits b).toNat : Nat)
def bxor (k : IntKind) (a b : Int) : Int := k.wrap ((BitVec.ofInt k.bits a ^^^ BitVec.ofInt k.bits b).toNat : Nat)
theorem p_and {x y : Operand} {xt yt : TypeId} {k : IntKind} {a b c : Int} (hx : ev L x = some (.int k a)) (hy : ev L y = some (.int k b)) (hv : band k a b = c) :
    Pu P L ⟨d, .binOp .and xt x y yt, ty, pos, af, g⟩ w (.int k c) := by
  intro ρ hρ; subst hv; simp [execOp, hρ x _ hx, hρ y _ hy, eqGuard, binOp, Op.intBits, band]
theorem p_or {x y : Operand} {xt yt : TypeId} {k : IntKind} {a b c : Int} (hx : ev L x = some (.int k a)) (hy : ev L y = some (.int k b)) (hv : bor k a b = c) :
    Pu P L ⟨d, .binOp .or xt x y yt, ty, pos, af, g⟩ w (.int k c) := by
  intro ρ hρ; subst hv; simp [execOp, hρ x _ hx, hρ y _ hy, eqGuard, binOp, Op.intBits, bor]
theorem p_xor {x y : Operand} {xt yt : TypeId} {k : IntKind} {a b c : Int} (hx : ev L x = some (.int k a)) (hy : ev L y = some (.int k b)) (hv : bxor k a b = c) :
    Pu P L ⟨d, .binOp .xor xt x y yt, ty, pos, af, g⟩ w (.int k c) := by
  intro ρ hρ; subst hv; simp [execOp, hρ x _ hx, hρ y _ hy, eqGuard, binOp, Op.intBits, bxor]
def bshl (k : IntKind) (a : Int) (n : Int) : Int := k.wrap (a * 2 ^ (min n.toNat k.bits))
def bshr (k : IntKind) (a : Int) (n : Int) : Int := a.fdiv (2 ^ (min n.toNat k.bits))
theorem p_shl {x y : Operand} {xt yt : TypeId} {k k' : IntKind} {a b c : Int} (hx : ev L x = some (.int k a)) (hy : ev L y = some (.int k' b)) (h0 : ¬ b < 0) (hv : bshl k a b = c) :
    Pu P L ⟨d, .binOp .shl xt x y yt, ty, pos, af, g⟩ w (.int k c) := by
  intro ρ hρ; subst hv; simp [execOp, hρ x _ hx, hρ y _ hy, eqGuard, binOp, Op.shift, bshl, h0]
theorem p_shr {x y : Operand} {xt yt : TypeId} {k k' : IntKind} {a b c : Int} (hx : ev L x = some (.int k a)) (hy : ev L y = some (.int k' b)) (h0 : ¬ b < 0) (hv : bshr k a b = c) :
    Pu P L ⟨d, .binOp .shr xt x y yt, ty, pos, af, g⟩ w (.int k c) := by
  intro ρ hρ; subst hv; simp [execOp, hρ x _ hx, hρ y _ hy, eqGuard, binOp, Op.shift, bshr, h0]

theorem p_eql {x y : Operand} {xt yt : TypeId} {k : IntKind} {a b : Int} (hx : ev L x = some (.int k a)) (hy : ev L y = some (.int k b)) :
    Pu P L ⟨d, .binOp .eql xt x y yt, ty, pos, af, g⟩ w (.bool (decide (a = b))) := by
  intro ρ hρ; simp [execOp, hρ x _ hx, hρ y _ hy, eqGuard, binOp, Op.intCmp]; by_cases h : a = b <;> simp [h]
theorem p_neq {x y : Operand} {xt yt : TypeId} {k : IntKind} {a b : Int} (hx : ev L x = some (.int k a)) (hy : ev L y = some (.int k b)) :
    Pu P L ⟨d, .binOp .neq xt x y yt, ty, pos, af, g⟩ w (.bool (decide (a ≠ b))) := by
  intro ρ hρ; simp [execOp, hρ x _ hx, hρ y _ hy, eqGuard, binOp, Op.intCmp]; by_cases h : a = b <;> simp [h]
theorem p_lss {x y : Operand} {xt yt : TypeId} {k : IntKind} {a b : Int} (hx : ev L x = some (.int k a)) (hy : ev L y = some (.int k b)) :
    Pu P L ⟨d, .binOp .lss xt x y yt, ty, pos, af, g⟩ w (.bool (decide (a < b))) := by
  intro ρ hρ; simp [execOp, hρ x _ hx, hρ y _ hy, eqGuard, binOp, Op.intCmp]
theorem p_leq {x y : Operand} {xt yt : TypeId} {k : IntKind} {a b : Int} (hx : ev L x = some (.int k a)) (hy : ev L y = some (.int k b)) :
    Pu P L ⟨d, .binOp .leq xt x y yt, ty, pos, af, g⟩ w (.bool (decide (a ≤ b))) := by
  intro ρ hρ; simp [execOp, hρ x _ hx, hρ y _ hy, eqGuard, binOp, Op.intCmp]
theorem p_gtr {x y : Operand} {xt yt : TypeId} {k : IntKind} {a b : Int} (hx : ev L x = some (.int k a)) (hy : ev L y = some (.int k b)) :
    Pu P L ⟨d, .binOp .gtr xt x y yt, ty, pos, af, g⟩ w (.bool (decide (b < a))) := by
  intro ρ hρ; simp [execOp, hρ x _ hx, hρ y _ hy, eqGuard, binOp, Op.intCmp]
theorem p_geq {x y : Operand} {xt yt : TypeId} {k : IntKind} {a b : Int} (hx : ev L x = some (.int k a)) (hy : ev L y = some (.int k b)) :
    Pu P L ⟨d, .binOp .geq xt x y yt, ty, pos, af, g⟩ w (.bool (decide (b ≤ a))) := by
  intro ρ hρ; simp [execOp, hρ x _ hx, hρ y _ hy, eqGuard, binOp, Op.intCmp]

theorem p_not {x : Operand} {xt : TypeId} {b : Bool} (hx : ev L x = some (.bool b)) : Pu P L ⟨d, .unOp .not xt x, ty, pos, af, g⟩ w (.bool (!b)) := by
  intro ρ hρ; simp [execOp, hρ x _ hx, Op.unary]
theorem p_neg {x : Operand} {xt : TypeId} {k : IntKind} {a c : Int} (hx : ev L x = some (.int k a)) (hv : k.wrap (0 - a) = c) : Pu P L ⟨d, .unOp .neg xt x, ty, pos, af, g⟩ w (.int k c) := by
  intro ρ hρ; simp only [Int.zero_sub] at hv; simp [execOp, hρ x _ hx, Op.unary, Op.intArith, hv]

theorem p_cvint {x : Operand} {s t : TypeId} {u : TypeDesc} {k k' : IntKind} {a c : Int} (hs : P.underlying s = some u) (ht : P.underlying t = some (.int k')) (hx : ev L x = some (.int k a)) (hv : k'.wrap a = c) :
    Pu P L ⟨d, .convert s t x, ty, pos, af, g⟩ w (.int k' c) := by
  intro ρ hρ
  simp [execOp, hρ x _ hx, convert, underlying, hs, ht, Conv.intToInt, hv]

theorem run_equal_bool {xt : TypeId} {a b : Bool} (ht : P.underlying xt = some .bool) : (Op.equal xt (.bool a) (.bool b)).run P w = .ok (a == b) w := by
  unfold Op.equal Op.maxDepth
  rw [Op.equalIn]
  simp [underlying, ht]
theorem p_eqb {x y : Operand} {xt yt : TypeId} {a b : Bool} (ht : P.underlying xt = some .bool) (hx : ev L x = some (.bool a)) (hy : ev L y = some (.bool b)) :
    Pu P L ⟨d, .binOp .eql xt x y yt, ty, pos, af, g⟩ w (.bool (a == b)) := by
  intro ρ hρ
  simp [execOp, hρ x _ hx, hρ y _ hy, eqGuard, binOp, run_equal_bool ht]
theorem p_neb {x y : Operand} {xt yt : TypeId} {a b : Bool} (ht : P.underlying xt = some .bool) (hx : ev L x = some (.bool a)) (hy : ev L y = some (.bool b)) :
    Pu P L ⟨d, .binOp .neq xt x y yt, ty, pos, af, g⟩ w (.bool (a != b)) := by
  intro ρ hρ
  simp [execOp, hρ x _ hx, hρ y _ hy, eqGuard, binOp, run_equal_bool ht, bne]
end
end Go.Kw
