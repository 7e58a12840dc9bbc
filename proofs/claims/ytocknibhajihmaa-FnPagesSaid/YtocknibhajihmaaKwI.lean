/- More operations: a row against nil. Conditions: none. -/
import Derived.Test.YtocknibhajihmaaKwH
set_option linter.unusedVariables false
set_option linter.unusedSimpArgs false
namespace Go.Kw
section
variable {P : Program} {L : List (Nat × Value)} {w : World} {d : Option Nat} {ty : TypeId} {pos : String} {af : Array Edge} {g : Option (Nat × Bool)}
theorem run_equal_nil {xt e : TypeId} {A : Option Addr} {n c : Nat} (ht : P.underlying xt = some (.slice e)) : (Op.equal xt (.slice A n c) (.slice none 0 0)).run P w = .ok A.isNone w := by
  unfold Op.equal Op.maxDepth
  rw [Op.equalIn]
  cases A <;> simp [underlying, ht]
theorem p_eqnil {x y : Operand} {xt yt e : TypeId} {A : Option Addr} {n c : Nat} (ht : P.underlying xt = some (.slice e)) (hx : ev L x = some (.slice A n c)) (hy : ev L y = some (.slice none 0 0)) :
    Pu P L ⟨d, .binOp .eql xt x y yt, ty, pos, af, g⟩ w (.bool A.isNone) := by
  intro ρ hρ
  simp [execOp, hρ x _ hx, hρ y _ hy, eqGuard, binOp, run_equal_nil ht]
theorem p_nenil {x y : Operand} {xt yt e : TypeId} {A : Option Addr} {n c : Nat} (ht : P.underlying xt = some (.slice e)) (hx : ev L x = some (.slice A n c)) (hy : ev L y = some (.slice none 0 0)) :
    Pu P L ⟨d, .binOp .neq xt x y yt, ty, pos, af, g⟩ w (.bool !A.isNone) := by
  intro ρ hρ
  simp [execOp, hρ x _ hx, hρ y _ hy, eqGuard, binOp, run_equal_nil ht]
end
section
variable {P : Program} {ops : Array Oper} {Q : Exit → Act → World → Prop} {rest : List Oper} {n : Nat} {a : Act} {L : List (Nat × Value)} {w : World}
theorem skipped {o : Oper} {d : Nat} (hF : Fr n a L) (hdst : o.dst = some d) (hd : d < n) (hw : Region.wanted o (yielded ops a.tmps) = false)
    (k : ∀ a, Fr n a ((d, undef) :: L) → wpList P ops Q rest a w) : wpList P ops Q (o :: rest) a w := by
  obtain ⟨dst, op, ty, pos, af, g⟩ := o
  cases hdst
  unfold wpList
  rw [if_neg (by simp [hw])]
  exact k _ (hF.put hd _)
theorem gofD {op : Op} {ty : TypeId} {pos : String} {af : Array Edge} {d j t : Nat} {b b' : Bool} (hF : Fr n a L) (hj : (ops[j]?).bind (·.dst) = some t) (ht : lk L t = some (.bool b')) (hb : b' ≠ b) (hd : d < n)
    (k : ∀ a, Fr n a ((d, undef) :: L) → wpList P ops Q rest a w) : wpList P ops Q (⟨some d, op, ty, pos, af, some (j, b)⟩ :: rest) a w :=
  skipped hF rfl hd (by
    have h1 := hF.g t _ ht
    have hy : yielded ops a.tmps j = some b' := by unfold yielded; rw [hj]; simp [h1]
    simp [Region.wanted, hy, hb]) k
theorem gofU {op : Op} {ty : TypeId} {pos : String} {af : Array Edge} {d j t : Nat} {b : Bool} (hF : Fr n a L) (hj : (ops[j]?).bind (·.dst) = some t) (ht : lk L t = some undef) (hd : d < n)
    (k : ∀ a, Fr n a ((d, undef) :: L) → wpList P ops Q rest a w) : wpList P ops Q (⟨some d, op, ty, pos, af, some (j, b)⟩ :: rest) a w :=
  skipped hF rfl hd (by
    have h1 := hF.g t _ ht
    have hy : yielded ops a.tmps j = none := by unfold yielded; rw [hj]; simp [h1, undef]
    simp [Region.wanted, hy]) k
end
theorem Sl.cases {α : Type} {kd : Kd α} {σ : HF} {v : Value} {xs : List α} (h : Sl kd σ v xs) : (∃ c, v = .slice none 0 c ∧ xs = []) ∨ ∃ A c, v = .slice (some A) xs.length c := by
  obtain ⟨A, cap, rfl, _, h | ⟨g, off, cur, T, fr, rfl, _⟩⟩ := h
  · subst h
    cases A with
    | none => exact .inl ⟨_, rfl, rfl⟩
    | some A => exact .inr ⟨_, _, rfl⟩
  · exact .inr ⟨_, _, rfl⟩
theorem flat_arr {α : Type} {a : Kd α} {n : Nat} (ha : a.Flat) : (Kd.arr n a).Flat := fun h => ⟨h.1, h.2.1, h.2.2.1, fun i x hi => let ⟨cs, hk, hw⟩ := h.2.2.2 i x hi; ⟨cs, ha hk, hw⟩⟩
end Go.Kw
