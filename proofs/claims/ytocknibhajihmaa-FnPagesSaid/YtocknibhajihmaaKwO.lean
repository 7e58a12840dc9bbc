/- Plain functions with fuel: copying, comparing, marking and looking for marks, row by row. Conditions: none. -/
import Derived.Test.YtocknibhajihmaaKwP
set_option linter.unusedVariables false
set_option linter.unusedSimpArgs false
namespace Go.Kw
theorem wr_take {α : Type} [Inhabited α] {xs ys : List α} {i : Nat} (hi : i < xs.length) (hl : ys.length = xs.length) (h : ys.take i = xs.take i) : (wr ys (i : Int) xs[i]).take (i + 1) = xs.take (i + 1) := by
  have e1 : (wr ys (i : Int) xs[i]).take (i + 1) = ys.take i ++ [xs[i]] := by
    simp only [wr, Int.toNat_natCast]
    rw [List.take_set, List.take_succ_eq_append_getElem (by omega), List.set_append_right _ _ (by simp; omega)]
    have : i - (List.take i ys).length = 0 := by simp; omega
    rw [this]; rfl
  rw [e1, h, List.take_succ_eq_append_getElem hi]
/-- A row is copied element by element. -/
theorem copy_up {α ρ : Type} [Inhabited α] (L : Nat → List α → Int → Option ρ) (xs : List α) (Q : ρ → Prop)
    (step : ∀ (i : Nat) (hi : i < xs.length) (ys : List α), ys.length = xs.length → EvP (fun k => L k (wr ys (i : Int) xs[i]) ((i + 1 : Nat) : Int)) Q → EvP (fun k => L (k + 1) ys (i : Int)) Q)
    (stop : EvP (fun k => L (k + 1) xs (xs.length : Int)) Q) (ys : List α) (h : ys.length = xs.length) : EvP (fun k => L k ys 0) Q := by
  have := for_up (fun k (s : List α) i => L k s i) xs.length (fun i s => s.length = xs.length ∧ s.take i = xs.take i) Q ?_ ?_ (i := 0) (s := ys) (Nat.zero_le _) ⟨h, by simp⟩
  · exact this
  · intro i s hi ⟨h1, h2⟩ ih
    exact step i hi s h1 (ih _ ⟨by rw [wr_len]; exact h1, wr_take hi h1 h2⟩)
  · intro s ⟨h1, h2⟩
    have : s = xs := by rw [← List.take_of_length_le (Nat.le_refl xs.length), ← h2, List.take_of_length_le (by omega)]
    rw [this]; exact stop
/-- A loop that looks at each place and goes on. -/
theorem all_up {ρ : Type} (L : Nat → Int → Option ρ) (n : Nat) (Q : ρ → Prop)
    (step : ∀ (i : Nat), i < n → EvP (fun k => L k ((i + 1 : Nat) : Int)) Q → EvP (fun k => L (k + 1) (i : Int)) Q)
    (stop : EvP (fun k => L (k + 1) (n : Int)) Q) : EvP (fun k => L k 0) Q := by
  have := for_up (fun k (s : Unit) i => L k i) n (fun _ _ => True) Q (fun i s hi _ ih => step i hi (ih () trivial)) (fun s _ => stop) (i := 0) (s := ()) (Nat.zero_le _) trivial
  exact this
/-- Marks of a row: each element's, one behind the other. -/
inductive Hd {α : Type} (E : α → Int → Int → Prop) : List α → Int → Int → Prop
  | nil {k : Int} : Hd E [] k k
  | cons {x : α} {xs : List α} {a b c : Int} : E x a b → Hd E xs b c → Hd E (x :: xs) a c
theorem Hd.snoc {α : Type} {E : α → Int → Int → Prop} {xs : List α} {x : α} {a b c : Int} (h : Hd E xs a b) (hx : E x b c) : Hd E (xs ++ [x]) a c := by
  induction h with
  | nil => exact .cons hx .nil
  | cons h1 _ ih => exact .cons h1 (ih hx)
theorem Hd.le {α : Type} {E : α → Int → Int → Prop} (hE : ∀ x a b, E x a b → a ≤ b) {xs : List α} {a b : Int} (h : Hd E xs a b) : a ≤ b := by
  induction h with
  | nil => exact Int.le_refl _
  | cons h1 _ ih => have := hE _ _ _ h1; omega
def cnt {α : Type} (c : α → Nat) (xs : List α) : Nat := (xs.map c).sum
theorem cnt_nil {α : Type} (c : α → Nat) : cnt c [] = 0 := rfl
theorem cnt_cons {α : Type} (c : α → Nat) (x : α) (xs : List α) : cnt c (x :: xs) = c x + cnt c xs := by simp [cnt]
theorem cnt_append {α : Type} (c : α → Nat) (xs ys : List α) : cnt c (xs ++ ys) = cnt c xs + cnt c ys := by simp [cnt]
theorem cnt_split {α : Type} (c : α → Nat) {xs : List α} {i : Nat} (hi : i < xs.length) : cnt c (xs.take i) + c xs[i] + cnt c (xs.drop (i + 1)) = cnt c xs := by
  have h1 : xs = xs.take i ++ (xs[i] :: xs.drop (i + 1)) := by rw [← List.drop_eq_getElem_cons hi, List.take_append_drop]
  conv => rhs; rw [h1, cnt_append, cnt_cons]
  omega
theorem wr_take_self {α : Type} {ys : List α} {i : Nat} {x : α} (hi : i < ys.length) : (wr ys (i : Int) x).take (i + 1) = ys.take i ++ [x] := by
  simp only [wr, Int.toNat_natCast]
  rw [List.take_set, List.take_succ_eq_append_getElem hi, List.set_append_right _ _ (by simp; omega)]
  have : i - (List.take i ys).length = 0 := by simp; omega
  rw [this]; rfl
theorem wr_drop {α : Type} {ys : List α} {i : Nat} {x : α} : (wr ys (i : Int) x).drop (i + 1) = ys.drop (i + 1) := by
  simp only [wr, Int.toNat_natCast]
  rw [List.drop_set_of_lt (by omega)]
/-- A row is marked. -/
theorem mark_up {α ρ : Type} [Inhabited α] (L : Nat → List α → Int → Int → Option ρ) (E : α → Int → Int → Prop) (c : α → Nat) (xs : List α) (n : Int) (Q : ρ → Prop)
    (step : ∀ (i : Nat) (hi : i < xs.length) (ys : List α) (m : Int), ys.length = xs.length → rd ys (i : Int) = xs[i] → n ≤ m → m + c xs[i] ≤ n + cnt c xs →
      (∀ x' m', E x' m m' → m' = m + c xs[i] → EvP (fun k => L k (wr ys (i : Int) x') m' ((i + 1 : Nat) : Int)) Q) → EvP (fun k => L (k + 1) ys m (i : Int)) Q)
    (stop : ∀ ys, ys.length = xs.length → Hd E ys n (n + cnt c xs) → EvP (fun k => L (k + 1) ys (n + cnt c xs) (xs.length : Int)) Q) : EvP (fun k => L k xs n 0) Q := by
  have := for_up (fun k (s : List α × Int) i => L k s.1 s.2 i) xs.length (fun i s => s.1.length = xs.length ∧ s.1.drop i = xs.drop i ∧ s.2 = n + cnt c (xs.take i) ∧ Hd E (s.1.take i) n s.2) Q ?_ ?_ (i := 0) (s := (xs, n)) (Nat.zero_le _) ⟨rfl, rfl, by simp [cnt_nil], by simp only [List.take_zero]; exact .nil⟩
  · exact this
  · rintro i ⟨ys, m⟩ hi ⟨h1, h2, h3, h4⟩ ih
    dsimp only at h1 h2 h3 h4 ih ⊢
    have hsp := cnt_split c hi
    have hyi : ys[i]'(by omega) = xs[i] := by
      have e1 := List.drop_eq_getElem_cons (l := ys) (i := i) (by omega)
      rw [h2, List.drop_eq_getElem_cons hi] at e1
      injection e1 with e2 _; exact e2.symm
    refine step i hi ys m h1 (by rw [rd_eq (by omega)]; exact hyi) (by omega) (by omega) fun x' m' hE hm => ?_
    refine ih (wr ys (i : Int) x', m') ⟨by rw [wr_len]; exact h1, ?_, ?_, ?_⟩
    · show (wr ys (i : Int) x').drop (i + 1) = _
      rw [wr_drop]
      have e1 := List.drop_eq_getElem_cons (l := ys) (i := i) (by omega)
      rw [h2, List.drop_eq_getElem_cons hi] at e1
      injection e1 with _ e2; exact e2.symm
    · show m' = _
      rw [List.take_succ_eq_append_getElem hi, cnt_append, cnt_cons, cnt_nil]; omega
    · show Hd E ((wr ys (i : Int) x').take (i + 1)) n m'
      rw [wr_take_self (by omega)]
      exact h4.snoc hE
  · rintro ⟨ys, m⟩ ⟨h1, h2, h3, h4⟩
    dsimp only at h1 h2 h3 h4 ⊢
    rw [List.take_of_length_le (by omega)] at h4
    rw [List.take_of_length_le (Nat.le_refl _)] at h3
    subst h3
    exact stop ys h1 h4
/-- Marks of a row are looked for. -/
theorem held_up {α ρ : Type} [Inhabited α] (L : Nat → Int → Int → Option ρ) (E : α → Int → Int → Prop) (hE : ∀ x a b, E x a b → a ≤ b) (ys : List α) (n m : Int) (Q : ρ → Prop) (h : Hd E ys n m)
    (step : ∀ (i : Nat) (hi : i < ys.length) (a b : Int), n ≤ a → b ≤ m → E ys[i] a b → EvP (fun k => L k b ((i + 1 : Nat) : Int)) Q → EvP (fun k => L (k + 1) a (i : Int)) Q)
    (stop : EvP (fun k => L (k + 1) m (ys.length : Int)) Q) : EvP (fun k => L k n 0) Q := by
  have key : ∀ (zs : List α) (i : Nat) (a : Int), ys.drop i = zs → i ≤ ys.length → n ≤ a → Hd E zs a m → EvP (fun k => L k a (i : Int)) Q := by
    intro zs
    induction zs with
    | nil =>
      intro i a hd hi hn hh
      cases hh
      have : i = ys.length := by have := congrArg List.length hd; simp at this; omega
      subst this
      exact EvP.succ stop
    | cons z zs ih =>
      intro i a hd hi hn hh
      cases hh with
      | @cons _ _ _ b _ h1 h2 =>
        have hlt : i < ys.length := by have := congrArg List.length hd; simp at this; omega
        have e1 := List.drop_eq_getElem_cons hlt
        rw [hd] at e1
        injection e1 with e2 e3
        subst e2
        have hab := hE _ _ _ h1
        exact EvP.succ (step i hlt a b hn (h2.le hE) h1 (ih (i + 1) b e3.symm (by omega) (by omega) h2))
  exact key ys 0 n rfl (Nat.zero_le _) (Int.le_refl _) h
/-- One number, one mark. -/
def EI (x a b : Int) : Prop := x = a ∧ b = a + 1
theorem EI_le (x a b : Int) (h : EI x a b) : a ≤ b := by have := h.2; omega
theorem cnt_one {α : Type} (xs : List α) (c : Nat) : cnt (fun _ => c) xs = c * xs.length := by
  induction xs with
  | nil => simp [cnt_nil]
  | cons x xs ih => rw [cnt_cons, ih, List.length_cons, Nat.mul_add]; omega
/-- What is to go is taken out in place. -/
theorem del_up {α ρ : Type} [Inhabited α] (L : Nat → List α → Int → Int → Option ρ) (P : α → Bool) (xs : List α) (Q : ρ → Prop)
    (step : ∀ (i : Nat) (hi : i < xs.length) (ys : List α) (j : Nat), ys.length = xs.length → j ≤ i → rd ys (i : Int) = xs[i] →
      (P xs[i] = false → EvP (fun k => L k (wr ys (j : Int) xs[i]) ((j + 1 : Nat) : Int) ((i + 1 : Nat) : Int)) Q) → (P xs[i] = true → EvP (fun k => L k ys (j : Int) ((i + 1 : Nat) : Int)) Q) → EvP (fun k => L (k + 1) ys (j : Int) (i : Int)) Q)
    (stop : ∀ ys (j : Nat), ys.length = xs.length → j ≤ xs.length → ys.take j = xs.filter (fun x => !P x) → EvP (fun k => L (k + 1) ys (j : Int) (xs.length : Int)) Q)
    (h : xs.any P = true) : EvP (fun k => L k xs (xs.findIdx P : Int) ((xs.findIdx P + 1 : Nat) : Int)) Q := by
  have hi : xs.findIdx P < xs.length := List.findIdx_lt_length_of_exists (by simpa using h)
  have := for_up (fun k (s : List α × Nat) i => L k s.1 (s.2 : Int) i) xs.length (fun i s => s.1.length = xs.length ∧ s.2 ≤ i ∧ s.1.take s.2 = (xs.take i).filter (fun x => !P x) ∧ s.1.drop i = xs.drop i) Q ?_ ?_ (i := xs.findIdx P + 1) (s := (xs, xs.findIdx P)) hi ⟨rfl, by simp only; omega, ?_, rfl⟩
  · exact this
  · rintro i ⟨ys, j⟩ hi ⟨h1, h2, h3, h4⟩ ih
    dsimp only at h1 h2 h3 h4 ih ⊢
    have e1 := List.drop_eq_getElem_cons (l := ys) (i := i) (by omega)
    rw [h4, List.drop_eq_getElem_cons hi] at e1
    injection e1 with e2 e3
    refine step i hi ys j h1 h2 (by rw [rd_eq (by omega)]; exact e2.symm) (fun hp => ?_) fun hp => ?_
    · refine ih (wr ys (j : Int) xs[i], j + 1) ⟨by rw [wr_len]; exact h1, by simp only; omega, ?_, ?_⟩
      · show (wr ys (j : Int) xs[i]).take (j + 1) = _
        rw [wr_take_self (by omega), h3, List.take_succ_eq_append_getElem hi, List.filter_append]
        simp [hp]
      · show (wr ys (j : Int) xs[i]).drop (i + 1) = _
        simp only [wr, Int.toNat_natCast]
        rw [List.drop_set_of_lt (by omega), e3]
    · refine ih (ys, j) ⟨h1, by simp only; omega, ?_, e3.symm⟩
      show ys.take j = _
      rw [h3, List.take_succ_eq_append_getElem hi, List.filter_append]
      simp [hp]
  · rintro ⟨ys, j⟩ ⟨h1, h2, h3, h4⟩
    dsimp only at h1 h2 h3 h4 ⊢
    rw [List.take_of_length_le (Nat.le_refl _)] at h3
    exact stop ys j h1 h2 h3
  · show xs.take (xs.findIdx P) = _
    have hP : P xs[xs.findIdx P] = true := List.findIdx_getElem
    rw [List.take_succ_eq_append_getElem hi, List.filter_append]
    have : (xs.take (xs.findIdx P)).filter (fun x => !P x) = xs.take (xs.findIdx P) := by
      rw [List.filter_eq_self]
      intro x hx
      obtain ⟨j, hj, rfl⟩ := List.mem_take_iff_getElem.1 hx
      have := List.not_of_lt_findIdx (p := P) (xs := xs) (i := j) (by omega)
      simpa using this
    rw [this]; simp [hP]
theorem filter_none {α : Type} {P : α → Bool} {xs : List α} (h : xs.any P = false) : xs.filter (fun x => !P x) = xs := by
  rw [List.filter_eq_self]
  intro x hx
  rw [List.any_eq_false] at h
  simpa using h x hx
/-- What is right is gathered. -/
theorem collect_up {α β ρ : Type} [Inhabited α] (L : Nat → List β → Int → Option ρ) (xs : List α) (P : α → Bool) (F : α → β) (s0 : List β) (Q : ρ → Prop)
    (step : ∀ (i : Nat) (hi : i < xs.length) (s : List β), s.length ≤ s0.length + i → (P xs[i] = true → EvP (fun k => L k (s ++ [F xs[i]]) ((i + 1 : Nat) : Int)) Q) → (P xs[i] = false → EvP (fun k => L k s ((i + 1 : Nat) : Int)) Q) → EvP (fun k => L (k + 1) s (i : Int)) Q)
    (stop : EvP (fun k => L (k + 1) (s0 ++ (xs.filter P).map F) (xs.length : Int)) Q) : EvP (fun k => L k s0 0) Q := by
  have := for_up (fun k (s : List β) i => L k s i) xs.length (fun i s => s = s0 ++ ((xs.take i).filter P).map F) Q ?_ ?_ (i := 0) (s := s0) (Nat.zero_le _) (by simp)
  · exact this
  · intro i s hi hI ih
    refine step i hi s ?_ (fun hp => ih _ ?_) fun hp => ih _ ?_
    · rw [hI]; simp only [List.length_append, List.length_map]
      have := List.length_filter_le P (xs.take i)
      simp only [List.length_take] at this; omega
    · rw [hI, List.take_succ_eq_append_getElem hi, List.filter_append]; simp [hp]
    · rw [hI, List.take_succ_eq_append_getElem hi, List.filter_append]; simp [hp]
  · intro s hI
    rw [hI, List.take_of_length_le (Nat.le_refl _)]; exact stop
/-- How much is left, element by element. -/
theorem sz_up {α : Type} [Inhabited α] (L : Nat → Int → Int → Option (Ex Int Int)) (p : Nat → α → Int → Option Int) (xs : List α) (Z : α → Prop) (hlen : xs.length < 9223372036854775808)
    (hL : ∀ k m i, L (k + 1) m i = if (decide (i < (xs.length : Int))) = true then (if 0 ≤ i ∧ i < (xs.length : Int) then ((p k (rd xs i) m).bind fun x5 => (if (decide (x5 < 0)) = true then (some (Ex.ret (-1))) else (L k x5 (w64 (i + 1))))) else none) else (some (Ex.go m)))
    (hp : ∀ x ∈ xs, ∀ m, 0 ≤ m → m ≤ 1048576 → EvP (fun k => p k x m) (fun r => r = -1 ∨ (0 ≤ r ∧ r ≤ m ∧ Z x))) {n : Int} (h0 : 0 ≤ n) (h1 : n ≤ 1048576) :
    EvP (fun k => L k n 0) (fun r => r = Ex.ret (-1) ∨ ∃ m, r = Ex.go m ∧ 0 ≤ m ∧ m ≤ n ∧ ∀ x ∈ xs, Z x) := by
  have := for_up (fun k (s : Int) i => L k s i) xs.length (fun i s => 0 ≤ s ∧ s ≤ n ∧ ∀ j (hj : j < xs.length), j < i → Z xs[j]) (fun r => r = Ex.ret (-1) ∨ ∃ m, r = Ex.go m ∧ 0 ≤ m ∧ m ≤ n ∧ ∀ x ∈ xs, Z x) ?_ ?_ (i := 0) (s := n) (Nat.zero_le _) ⟨h0, Int.le_refl _, fun j _ h => absurd h (by omega)⟩
  · exact this
  · intro i s hi ⟨a, b, c⟩ ih
    simp only [hL]
    refine EvP.ifT (by simpa using hi) (EvP.ifT ⟨by omega, by omega⟩ ?_)
    rw [rd_eq hi]
    refine EvP.bind (hp _ (List.getElem_mem hi) s a (by omega)) fun r hr => EvP.ite (fun _ => EvP.ret (.inl rfl)) fun hc => ?_
    simp only [decide_eq_true_eq] at hc
    obtain ⟨d, e, f⟩ := hr.resolve_left (by omega)
    rw [w64_succ hi hlen]
    refine ih r ⟨d, by omega, fun j hj hji => ?_⟩
    rcases Nat.lt_or_ge j i with h2 | h2
    · exact c j hj h2
    · obtain rfl : j = i := by omega
      exact f
  · intro s ⟨a, b, c⟩
    simp only [hL]
    refine EvP.ifF (by simp) (EvP.ret (.inr ⟨s, rfl, a, b, fun x hx => ?_⟩))
    obtain ⟨j, hj, rfl⟩ := List.getElem_of_mem hx
    exact c j hj hj
theorem and_ev {b c : Bool} {f : Nat → Option Bool} (h : b = true → EvP f (· = c)) : EvP (fun k => if b = true then ((f k).bind fun x => some x) else some false) (· = (b && c)) := by
  cases b with
  | true => exact EvP.ifT rfl (EvP.bind1 (h rfl) (EvP.ret (by simp)))
  | false => exact EvP.ifF (by simp) (EvP.ret (by simp))
theorem or_ev {b c : Bool} {f : Nat → Option Bool} (h : b = false → EvP f (· = c)) : EvP (fun k => if b = true then some true else ((f k).bind fun x => some x)) (· = (b || c)) := by
  cases b with
  | true => exact EvP.ifT rfl (EvP.ret (by simp))
  | false => exact EvP.ifF (by simp) (EvP.bind1 (h rfl) (EvP.ret (by simp)))
theorem andn_ev {b c : Bool} {f : Nat → Option Bool} (h : b = true → EvP f (· = c)) : EvP (fun k => if b = true then ((f k).bind fun x => some (!x)) else some false) (· = (b && !c)) := by
  cases b with
  | true => exact EvP.ifT rfl (EvP.bind1 (h rfl) (EvP.ret (by simp)))
  | false => exact EvP.ifF (by simp) (EvP.ret (by simp))
theorem orn_ev {b c : Bool} {f : Nat → Option Bool} (h : b = false → EvP f (· = c)) : EvP (fun k => if b = true then some true else ((f k).bind fun x => some (!x))) (· = (b || !c)) := by
  cases b with
  | true => exact EvP.ifT rfl (EvP.ret (by simp))
  | false => exact EvP.ifF (by simp) (EvP.bind1 (h rfl) (EvP.ret (by simp)))
/-- All of a row, until one is not. -/
theorem all_ev {α : Type} [Inhabited α] (L : Nat → Int → Option (Ex Bool Unit)) (p : Nat → α → Option Bool) (xs : List α) (P : α → Bool) (hlen : xs.length < 9223372036854775808)
    (hL : ∀ k i, L (k + 1) i = if (decide (i < (xs.length : Int))) = true then (if 0 ≤ i ∧ i < (xs.length : Int) then ((p k (rd xs i)).bind fun b => if (!b) = true then some (Ex.ret false) else L k (w64 (i + 1))) else none) else some (Ex.go ()))
    (hp : ∀ x ∈ xs, EvP (fun k => p k x) (· = P x)) : EvP (fun k => L k 0) (· = if xs.all P = true then Ex.go () else Ex.ret false) := by
  have := for_up (fun k (_ : Unit) i => L k i) xs.length (fun i _ => ∀ j (h : j < xs.length), j < i → P xs[j] = true) (· = if xs.all P = true then Ex.go () else Ex.ret false) ?_ ?_ (i := 0) (s := ()) (Nat.zero_le _) (fun j _ h => absurd h (by omega))
  · exact this
  · intro i s hi hI ih
    simp only [hL]
    refine EvP.ifT (by simpa using hi) (EvP.ifT ⟨by omega, by omega⟩ ?_)
    refine EvP.bind1 (hp _ (by rw [rd_eq hi]; exact List.getElem_mem _)) ?_
    rw [rd_eq hi]
    cases hb : P xs[i] with
    | false =>
      refine EvP.ifT (by simp) (EvP.ret ?_)
      rw [if_neg]
      rw [List.all_eq_true]
      intro h
      rw [h _ (List.getElem_mem hi)] at hb; cases hb
    | true =>
      refine EvP.ifF (by simp) ?_
      rw [w64_succ hi hlen]
      refine ih () fun j h hj => ?_
      rcases Nat.lt_or_ge j i with h1 | h1
      · exact hI j h h1
      · obtain rfl : j = i := by omega
        exact hb
  · intro s hI
    simp only [hL]
    refine EvP.ifF (by simp) (EvP.ret ?_)
    rw [if_pos]
    rw [List.all_eq_true]
    intro x hx
    obtain ⟨j, hj, rfl⟩ := List.getElem_of_mem hx
    exact hI j hj hj
theorem all_any {α : Type} {P : α → Bool} {xs : List α} : (!xs.any (fun x => !P x)) = xs.all P := by
  induction xs with
  | nil => rfl
  | cons x xs ih => simp only [List.any_cons, List.all_cons, ← ih]; cases P x <;> simp
theorem fidx_dec {α : Type} {P : α → Bool} {xs : List α} : decide (0 ≤ fidx P xs) = xs.any P := by
  cases h : xs.any P with
  | true => simpa using fidx_pos.2 h
  | false =>
    have : ¬ 0 ≤ fidx P xs := fun hh => by rw [fidx_pos.1 hh] at h; cases h
    simpa using this
theorem rd_all {α : Type} [Inhabited α] [DecidableEq α] {xs ys : List α} (h : xs.length = ys.length) : (List.range xs.length).all (fun i => decide (rd xs (i : Int) = rd ys (i : Int))) = decide (xs = ys) := by
  by_cases e : xs = ys
  · subst e; simp
  · rw [decide_eq_false e]
    rw [Bool.eq_false_iff]
    intro hh
    apply e
    rw [List.all_eq_true] at hh
    apply List.ext_getElem h
    intro i h1 h2
    have := hh i (List.mem_range.2 h1)
    rw [rd_eq h1, rd_eq h2] at this
    simpa using this
theorem rd_range {α : Type} [Inhabited α] {P : α → Bool} (xs : List α) : (List.range xs.length).all (fun i => P (rd xs (i : Int))) = xs.all P := by
  rw [Bool.eq_iff_iff, List.all_eq_true, List.all_eq_true]
  constructor
  · intro h x hx
    obtain ⟨i, hi, rfl⟩ := List.getElem_of_mem hx
    have := h i (List.mem_range.2 hi)
    rwa [rd_eq hi] at this
  · intro h i hi
    have hi' := List.mem_range.1 hi
    rw [rd_eq hi']; exact h _ (List.getElem_mem hi')
end Go.Kw
