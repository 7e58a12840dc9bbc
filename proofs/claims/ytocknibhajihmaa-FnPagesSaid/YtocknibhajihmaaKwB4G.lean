/- The program's GetInt and the reference's, what they read. Conditions: none. -/
import Derived.Test.YtocknibhajihmaaKwB4B
set_option linter.unusedVariables false
set_option linter.unusedSimpArgs false
namespace Go.Proofs.Ytocknibhajihmaa
open Go.Kw

def badG : Ex (Int × Int × Bool × Bool) Unit → Prop
  | Ex.ret q => q.2.2.1 = false
  | Ex.go _ => True
theorem rd_nat {b : List Int} (hw : wfB b) {i : Nat} (h : i < b.length) : ∃ y : Nat, y < 256 ∧ rd b (i : Int) = (y : Int) ∧ b.drop i = (y : Int) :: b.drop (i + 1) := by
  have h1 := hw _ (List.getElem_mem h)
  refine ⟨b[i].toNat, by omega, ?_, ?_⟩
  · rw [rd_eq h]; omega
  · rw [List.drop_eq_getElem_cons h]; congr 1; omega
theorem groups_far {b : List Int} {p : Nat} (hw : wfB b) (hl : b.length ≤ 1048576) (d : Nat) : ∀ (i : Nat) (acc : Int) (ok : Bool), 6 ≤ i → p + i ≤ b.length + 6 → b.length ≤ p + i + d → EvP (fun k => impl_groups.l1 (p : Int) b k acc ok (i : Int)) badG := by
  induction d with
  | zero =>
    intro i acc ok hi hb hd
    refine EvP.succ ?_
    simp only [impl_groups.l1]
    rw [w64_id (by omega) (by omega)]
    exact EvP.ifF (by simp only [decide_eq_true_eq]; omega) (EvP.ret trivial)
  | succ d ih =>
    intro i acc ok hi hb hd
    refine EvP.succ ?_
    simp only [impl_groups.l1, impl_groups.c2]
    rw [w64_id (n := (p : Int) + (i : Int)) (by omega) (by omega)]
    by_cases hlt : p + i < b.length
    · have e : (p : Int) + (i : Int) = ((p + i : Nat) : Int) := by omega
      rw [e]
      obtain ⟨y, hy, e1, -⟩ := rd_nat hw hlt
      rw [e1, w64_id (n := (y : Int)) (by omega) (by omega), band_127 (by omega)]
      refine EvP.ifT (by simp only [decide_eq_true_eq]; omega) (EvP.ifT (by omega) (EvP.bind1 (a := (acc, if y % 128 = 0 then ok else false)) (EvP.ifF (by simp only [decide_eq_true_eq]; omega) (EvP.ite (fun h => EvP.ret ?_) fun h => EvP.ret ?_)) ?_))
      · rw [if_neg (by simp only [decide_eq_true_eq] at h; omega)]
      · rw [if_pos (by simp only [decide_eq_true_eq] at h; omega)]
      · refine EvP.ite (fun h => ?_) fun h => EvP.ret ?_
        · have e2 : w64 ((i : Int) + 1) = ((i + 1 : Nat) : Int) := w64_succ (n := i + 1) (by omega) (by omega)
          rw [e2]
          exact ih (i + 1) _ _ (by omega) (by omega) (by omega)
        · simp only [decide_eq_true_eq] at h
          show ((if y % 128 = 0 then ok else false) && (decide (((y : Nat) : Int) ≠ 0) || decide ((i : Int) = 0))) = false
          have h2 : decide ((i : Int) = 0) = false := decide_eq_false (by omega)
          rw [h2, Bool.or_false]
          by_cases h0 : y = 0
          · have : decide (((y : Nat) : Int) ≠ 0) = false := decide_eq_false (by omega)
            rw [this, Bool.and_false]
          · rw [if_neg (by omega), Bool.false_and]
    · exact EvP.ifF (by simp only [decide_eq_true_eq]; omega) (EvP.ret trivial)
/-- A group put to the ones before. -/
theorem put_group {acc y i : Nat} (ha : acc < 2 ^ (7 * i)) (hi : i < 6) :
    bor .i64 (acc : Int) (bshl .i64 ((y % 128 : Nat) : Int) ((7 * i : Nat) : Int)) = ((acc + (y % 128) * 2 ^ (7 * i) : Nat) : Int) ∧ acc + (y % 128) * 2 ^ (7 * i) < 2 ^ (7 * (i + 1)) ∧ 2 ^ (7 * (i + 1)) = 128 * 2 ^ (7 * i) ∧ 2 ^ (7 * i) ≤ 2 ^ 35 := by
  have h1 : 2 ^ (7 * i) ≤ 2 ^ 35 := Nat.pow_le_pow_right (by decide) (by omega)
  have h2 : (y % 128) * 2 ^ (7 * i) ≤ 127 * 2 ^ (7 * i) := Nat.mul_le_mul_right _ (by omega)
  have h3 : 2 ^ (7 * (i + 1)) = 128 * 2 ^ (7 * i) := by rw [Nat.mul_add, Nat.pow_add, Nat.mul_comm]
  rw [bshl_nat (by omega) (by omega), bor_add ha (by omega) (by omega)]
  exact ⟨rfl, by omega, h3, h1⟩
def goodG (acc i p : Nat) (f : Nat) (l : List Int) (r : Ex (Int × Int × Bool × Bool) Unit) : Prop :=
  match decN f l with
  | some (m, len) => r = Ex.ret (((acc + 2 ^ (7 * i) * m : Nat) : Int), ((p + i + len : Nat) : Int), decide (m ≠ 0) || decide (i = 0), false)
  | none => badG r
theorem groups_ev {b : List Int} {p : Nat} (hw : wfB b) (hl : b.length ≤ 1048576) (hp : p ≤ b.length) (f : Nat) : ∀ (i acc : Nat), i + f = 6 → acc < 2 ^ (7 * i) → EvP (fun k => impl_groups.l1 (p : Int) b k (acc : Int) true (i : Int)) (goodG acc i p f (b.drop (p + i))) := by
  induction f with
  | zero =>
    intro i acc hi ha
    exact (groups_far hw hl b.length i acc true (by omega) (by omega) (by omega)).mono fun r hr => hr
  | succ f ih =>
    intro i acc hi ha
    refine EvP.succ ?_
    simp only [impl_groups.l1, impl_groups.c2]
    rw [w64_id (n := (p : Int) + (i : Int)) (by omega) (by omega)]
    by_cases hlt : p + i < b.length
    · have e : (p : Int) + (i : Int) = ((p + i : Nat) : Int) := by omega
      rw [e]
      obtain ⟨y, hy, e1, e3⟩ := rd_nat hw hlt
      obtain ⟨g1, g2, g3, g4⟩ := put_group (y := y) ha (by omega)
      have e4 : w64 (7 * (i : Int)) = ((7 * i : Nat) : Int) := by rw [w64_id (by omega) (by omega)]; omega
      rw [e1, w64_id (n := (y : Int)) (by omega) (by omega), band_127 (by omega), e4, g1]
      refine EvP.ifT (by simp only [decide_eq_true_eq]; omega) (EvP.ifT (by omega) (EvP.bind1 (a := (((acc + (y % 128) * 2 ^ (7 * i) : Nat) : Int), true)) (EvP.ifT (by simp only [decide_eq_true_eq]; omega) (EvP.ifT (by omega) (EvP.ret rfl))) ?_))
      refine EvP.ite (fun h => ?_) fun h => EvP.ret ?_
      · have e2 : w64 ((i : Int) + 1) = ((i + 1 : Nat) : Int) := w64_succ (n := i + 1) (by omega) (by omega)
        rw [e2]
        refine (ih (i + 1) _ (by omega) g2).mono fun r hr => ?_
        simp only [decide_eq_true_eq] at h
        unfold goodG at hr ⊢
        rw [e3, decN_cons, if_neg (by omega)]
        have e5 : p + (i + 1) = p + i + 1 := by omega
        rw [e5] at hr
        cases hd : decN f (b.drop (p + i + 1)) with
        | none => rw [hd] at hr; exact hr
        | some q =>
          obtain ⟨m, l⟩ := q
          rw [hd] at hr
          dsimp only at hr ⊢
          by_cases hm : m = 0
          · rw [if_pos hm]
            rw [hr]
            show (decide (m ≠ 0) || decide (i + 1 = 0)) = false
            rw [hm]; rfl
          · rw [if_neg hm]
            dsimp only
            rw [hr, g3]
            have k1 : ((y : Int) - 128).toNat = y % 128 := by omega
            have k2 : 2 ^ (7 * i) * (y % 128 + 128 * m) = y % 128 * 2 ^ (7 * i) + 128 * 2 ^ (7 * i) * m := by
              rw [Nat.mul_add, Nat.mul_comm _ (y % 128), Nat.mul_comm 128 (2 ^ (7 * i)), Nat.mul_assoc]
            rw [k1, k2]
            have k3 : (decide (m ≠ 0) || decide (i + 1 = 0)) = true := by simp [hm]
            have k4 : (decide (y % 128 + 128 * m ≠ 0) || decide (i = 0)) = true := by
              have : decide (y % 128 + 128 * m ≠ 0) = true := decide_eq_true (by omega)
              rw [this]; rfl
            rw [k3, k4, ← Nat.add_assoc]
            have k5 : p + i + 1 + l = p + i + (l + 1) := by omega
            rw [k5]
      · simp only [decide_eq_true_eq] at h
        unfold goodG
        rw [e3, decN_cons, if_pos (by omega)]
        dsimp only
        rw [w64_id (by omega) (by omega)]
        have k1 : ((y : Nat) : Int).toNat = y % 128 := by omega
        have k2 : decide (((y : Nat) : Int) ≠ 0) = decide (y % 128 ≠ 0) := decide_eq_decide.2 (by omega)
        have k3 : decide ((i : Int) = 0) = decide (i = 0) := decide_eq_decide.2 (by omega)
        rw [k1, k2, k3, Nat.mul_comm (2 ^ (7 * i)), Bool.true_and]
        rfl
    · refine EvP.ifF (by simp only [decide_eq_true_eq]; omega) (EvP.ret ?_)
      unfold goodG
      rw [List.drop_eq_nil_of_le (by omega)]
      exact trivial
/-- What both read at p. -/
def GI (b : List Int) (p : Nat) : Int × Int × Bool :=
  match dec (b.drop p) with
  | some (n, l) => (n, ((p + l : Nat) : Int), true)
  | none => (0, 0, false)
theorem decN_lt {f : Nat} {l : List Int} {m len : Nat} (hw : wfB l) (h : decN f l = some (m, len)) : m < 128 ^ f := (decN_inv f l m len hw h).2.2
theorem GetInt_ev {b : List Int} {p : Nat} (hw : wfB b) (hl : b.length ≤ 1048576) (hp : p ≤ b.length) : EvP (fun k => impl_GetInt.f k b (p : Int)) (· = GI b p) := by
  unfold impl_GetInt.f
  simp only [in_eq, Option.bind_some]
  have h1 : inB (p : Int) 0 (b.length : Int) = true := by simp [inB]; omega
  rw [h1]
  refine EvP.ifF (by simp) ?_
  unfold impl_groups.f impl_groups.c1
  have hw' := wfB_drop hw p
  refine EvP.bind (Q := fun x => match decN 6 (b.drop p) with
    | some (m, len) => x = ((m : Int), ((p + len : Nat) : Int), true, false)
    | none => x.2.2.1 = false) ?_ fun x hx => ?_
  · refine EvP.bind (groups_ev hw hl hp 6 0 0 rfl (by decide)) fun r hr => ?_
    unfold goodG at hr
    rw [Nat.add_zero] at hr
    cases hd : decN 6 (b.drop p) with
    | none =>
      rw [hd] at hr
      cases r with
      | ret q => exact EvP.ret hr
      | go u => exact EvP.ret rfl
    | some q =>
      obtain ⟨m, len⟩ := q
      rw [hd] at hr
      dsimp only at hr
      rw [hr]
      refine EvP.ret ?_
      simp
  · unfold GI dec impl_GetInt.c2 impl_GetInt.c1
    simp only [in_eq, Option.bind_some]
    refine EvP.bind (Q := fun v => x.2.2.1 = true → 0 ≤ x.1 → x.1 < 4611686018427387904 → v = unzig x.1.toNat) ?_ fun v hv => ?_
    · refine EvP.ite (fun h => EvP.ret fun _ h0 h1 => ?_) fun h => EvP.ret fun _ h0 h1 => ?_
      · simp only [decide_eq_true_eq] at h
        rw [Int.tmod_eq_emod_of_nonneg h0] at h
        rw [w64_id (n := x.1 + 1) (by omega) (by omega), w64_id (n := 0 - (x.1 + 1)) (by omega) (by omega)]
        have e : (0 - (x.1 + 1)).tdiv 2 = -((x.1 + 1) / 2) := by
          rw [Int.zero_sub, Int.neg_tdiv, Int.tdiv_eq_ediv_of_nonneg (by omega)]
        rw [e, w64_id (by omega) (by omega)]
        unfold unzig
        rw [if_pos (by omega)]; omega
      · simp only [decide_eq_true_eq] at h
        rw [Int.tmod_eq_emod_of_nonneg h0] at h
        rw [Int.tdiv_eq_ediv_of_nonneg h0, w64_id (by omega) (by omega)]
        unfold unzig
        rw [if_neg (by omega)]; omega
    · cases hd : decN 6 (b.drop p) with
      | none =>
        rw [hd] at hx
        dsimp only at hx ⊢
        rw [hx]
        exact EvP.bind1 (EvP.ifT rfl (EvP.ret rfl)) (EvP.ifT rfl (EvP.ret rfl))
      | some q =>
        obtain ⟨m, len⟩ := q
        rw [hd] at hx
        have hm := decN_lt hw' hd
        dsimp only at hx ⊢
        have e : v = unzig m := by
          refine (hv (by rw [hx]) (by rw [hx]; exact Int.natCast_nonneg _) (by rw [hx]; show (m : Int) < _; omega)).trans ?_
          rw [hx]; rfl
        rw [hx, e]
        refine EvP.bind1 (EvP.ifF (by simp) (EvP.ret rfl)) ?_
        have e2 : inB (unzig m) (-1000000000000) 1000000000000 = okI (unzig m) := rfl
        rw [e2]
        cases okI (unzig m) with
        | true => exact EvP.ifF (by simp) (EvP.ret rfl)
        | false => exact EvP.ifT rfl (EvP.ret rfl)
end Go.Proofs.Ytocknibhajihmaa
