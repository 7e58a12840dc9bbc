/- Plain functions with fuel: that they come to a result, and which. Conditions: none. -/
import Derived.Test.YtocknibhajihmaaKwJ
set_option linter.unusedVariables false
set_option linter.unusedSimpArgs false
namespace Go.Kw
/-- From some fuel on, f gives a result of which Q holds. -/
def EvP {α : Type} (f : Nat → Option α) (Q : α → Prop) : Prop := ∃ r, Q r ∧ ∃ K, ∀ k, K ≤ k → f k = some r
namespace EvP
variable {α β : Type} {Q : α → Prop} {R : β → Prop}
theorem ret {a : α} (h : Q a) : EvP (fun _ => some a) Q := ⟨a, h, 0, fun _ _ => rfl⟩
theorem mono {f : Nat → Option α} {Q' : α → Prop} (h : EvP f Q) (k : ∀ a, Q a → Q' a) : EvP f Q' := let ⟨a, ha, hK⟩ := h; ⟨a, k a ha, hK⟩
theorem bind {f : Nat → Option α} {g : Nat → α → Option β} (h : EvP f Q) (k : ∀ a, Q a → EvP (fun n => g n a) R) : EvP (fun n => (f n).bind (g n)) R := by
  obtain ⟨a, ha, K, hK⟩ := h
  obtain ⟨b, hb, K', hK'⟩ := k a ha
  exact ⟨b, hb, max K K', fun n hn => by show (f n).bind (g n) = _; rw [hK n (by omega)]; exact hK' n (by omega)⟩
/-- What f comes to is known. -/
theorem bind1 {f : Nat → Option α} {a : α} {g : Nat → α → Option β} (h : EvP f (· = a)) (k : EvP (fun n => g n a) R) : EvP (fun n => (f n).bind (g n)) R :=
  h.bind fun _ e => e ▸ k
theorem succ {f : Nat → Option α} (h : EvP (fun n => f (n + 1)) Q) : EvP f Q := by
  obtain ⟨a, ha, K, hK⟩ := h
  refine ⟨a, ha, K + 1, fun n hn => ?_⟩
  obtain ⟨m, rfl⟩ : ∃ m, n = m + 1 := ⟨n - 1, by omega⟩
  exact hK m (by omega)
theorem ifT {c : Prop} [Decidable c] {f g : Nat → Option α} (hc : c) (h : EvP f Q) : EvP (fun n => if c then f n else g n) Q := by simpa only [if_pos hc] using h
theorem ifF {c : Prop} [Decidable c] {f g : Nat → Option α} (hc : ¬ c) (h : EvP g Q) : EvP (fun n => if c then f n else g n) Q := by simpa only [if_neg hc] using h
theorem ite {c : Prop} [Decidable c] {f g : Nat → Option α} (h : c → EvP f Q) (k : ¬ c → EvP g Q) : EvP (fun n => if c then f n else g n) Q := by
  by_cases hc : c
  · exact ifT hc (h hc)
  · exact ifF hc (k hc)
theorem iteD {b : Bool} {f g : Nat → Option α} (h : b = true → EvP f Q) (k : b = false → EvP g Q) : EvP (fun n => if b = true then f n else g n) Q :=
  ite h fun hb => k (by simpa using hb)
theorem get {f : Nat → Option α} {a : α} (h : EvP f (· = a)) : ∃ k, f k = some a := by obtain ⟨_, rfl, K, hK⟩ := h; exact ⟨K, hK K (Nat.le_refl _)⟩
theorem cases {f : Nat → Option α} (h : EvP f Q) : ∃ a, Q a ∧ EvP f (· = a) := let ⟨a, ha, hK⟩ := h; ⟨a, ha, a, rfl, hK⟩
end EvP

theorem w64_id {n : Int} (h0 : -9223372036854775808 ≤ n) (h1 : n < 9223372036854775808) : w64 n = n := by
  have e : w64 n = if n % 18446744073709551616 ≥ 9223372036854775808 then n % 18446744073709551616 - 18446744073709551616 else n % 18446744073709551616 := by
    simp [w64, IntKind.wrap, IntKind.signed, IntKind.bits]
  rw [e]
  split <;> omega
theorem w64_succ {i n : Nat} (h : i < n) (hn : n < 9223372036854775808) : w64 ((i : Int) + 1) = ((i + 1 : Nat) : Int) := by
  rw [w64_id (by omega) (by omega)]; omega
theorem rd_eq {α : Type} [Inhabited α] {xs : List α} {i : Nat} (h : i < xs.length) : rd xs (i : Int) = xs[i] := by simp [rd, h]
theorem rd_mem {α : Type} [Inhabited α] {xs : List α} {i : Int} (h0 : 0 ≤ i) (h1 : i < (xs.length : Int)) : rd xs i ∈ xs := by
  obtain ⟨j, rfl⟩ := Int.eq_ofNat_of_zero_le h0
  rw [rd_eq (by omega)]; exact List.getElem_mem _
theorem rd_wr_same {α : Type} [Inhabited α] {xs : List α} {i : Int} {x : α} (h0 : 0 ≤ i) (h1 : i < (xs.length : Int)) : rd (wr xs i x) i = x := by
  have : i.toNat < xs.length := by omega
  simp [rd, wr, this]
theorem rd_wr_ne {α : Type} [Inhabited α] {xs : List α} {i j : Int} {x : α} (h0 : 0 ≤ i) (h1 : 0 ≤ j) (h : i ≠ j) : rd (wr xs i x) j = rd xs j := by
  have : i.toNat ≠ j.toNat := by omega
  simp [rd, wr, List.getD, List.getElem?_set_ne this]
theorem wr_len {α : Type} (xs : List α) (i : Int) (x : α) : (wr xs i x).length = xs.length := by simp [wr]

theorem band_range {a m : Int} (h0 : 0 ≤ m) (h1 : m < 9223372036854775808) : 0 ≤ band .i64 a m ∧ band .i64 a m ≤ m := by
  have h2 : (BitVec.ofInt 64 a &&& BitVec.ofInt 64 m).toNat ≤ m.toNat := by
    rw [BitVec.toNat_and]
    refine Nat.le_trans Nat.and_le_right ?_
    rw [BitVec.toNat_ofInt]
    have : m % ((2 ^ 64 : Nat) : Int) = m := Int.emod_eq_of_lt h0 (by omega)
    rw [this]; exact Nat.le_refl _
  have h3 : band .i64 a m = w64 ((BitVec.ofInt 64 a &&& BitVec.ofInt 64 m).toNat : Nat) := rfl
  rw [h3, w64_id (by omega) (by omega)]
  omega
theorem w64_range (n : Int) : -9223372036854775808 ≤ w64 n ∧ w64 n < 9223372036854775808 := by
  have e : w64 n = if n % 18446744073709551616 ≥ 9223372036854775808 then n % 18446744073709551616 - 18446744073709551616 else n % 18446744073709551616 := by
    simp [w64, IntKind.wrap, IntKind.signed, IntKind.bits]
  rw [e]
  split <;> omega
theorem tmod_range {a n : Int} (ha : 0 ≤ a) (hn : 0 < n) : 0 ≤ a.tmod n ∧ a.tmod n < n := ⟨Int.tmod_nonneg _ ha, Int.tmod_lt_of_pos _ hn⟩

/-- A loop over 0 .. n - 1. -/
theorem for_up {σ ρ : Type} (L : Nat → σ → Int → Option ρ) (n : Nat) (Inv : Nat → σ → Prop) (Q : ρ → Prop)
    (step : ∀ (i : Nat) s, i < n → Inv i s → (∀ s', Inv (i + 1) s' → EvP (fun k => L k s' ((i + 1 : Nat) : Int)) Q) → EvP (fun k => L (k + 1) s (i : Int)) Q)
    (stop : ∀ s, Inv n s → EvP (fun k => L (k + 1) s (n : Int)) Q) : ∀ {i : Nat} {s : σ}, i ≤ n → Inv i s → EvP (fun k => L k s (i : Int)) Q := by
  intro i
  induction h : n - i generalizing i with
  | zero =>
    intro s hi hs
    obtain rfl : i = n := by omega
    exact EvP.succ (stop s hs)
  | succ m ih =>
    intro s hi hs
    exact EvP.succ (step i s (by omega) hs fun s' hs' => ih (by omega) (by omega) hs')

theorem EvP.shift {α : Type} {f : Nat → Option α} {Q : α → Prop} (h : EvP f Q) (d : Nat) : EvP (fun k => f (k + d)) Q := by
  obtain ⟨a, ha, K, hK⟩ := h
  exact ⟨a, ha, K, fun k hk => hK _ (by omega)⟩
/-- A loop inside a loop: what it was given has a fuel of its own. -/
theorem for_up2 {σ ρ : Type} (L : Nat → Nat → σ → Int → Option ρ) (n : Nat) (Inv : Nat → σ → Prop) (Q : ρ → Prop)
    (step : ∀ (i : Nat) s (d : Nat), i < n → Inv i s → (∀ s', Inv (i + 1) s' → EvP (fun k => L (k + d) k s' ((i + 1 : Nat) : Int)) Q) → EvP (fun k => L (k + d) (k + 1) s (i : Int)) Q)
    (stop : ∀ s (d : Nat), Inv n s → EvP (fun k => L (k + d) (k + 1) s (n : Int)) Q) : ∀ {i : Nat} {s : σ} (d : Nat), i ≤ n → Inv i s → EvP (fun k => L (k + d) k s (i : Int)) Q := by
  have e : ∀ (s : σ) (i : Int) (d : Nat), EvP (fun k => L (k + (d + 1)) (k + 1) s i) Q → EvP (fun k => L (k + d) k s i) Q := fun s i d h => by
    refine EvP.succ ?_
    have : (fun n => L (n + 1 + d) (n + 1) s i) = fun k => L (k + (d + 1)) (k + 1) s i := by funext k; rw [show k + 1 + d = k + (d + 1) by omega]
    rw [this]; exact h
  intro i
  induction h : n - i generalizing i with
  | zero =>
    intro s d hi hs
    obtain rfl : i = n := by omega
    exact e _ _ _ (stop s _ hs)
  | succ m ih =>
    intro s d hi hs
    exact e _ _ _ (step i s _ (by omega) hs fun s' hs' => ih (by omega) _ (by omega) hs')

/-- The first place at which something is found. -/
theorem search_up {α : Type} [Inhabited α] (L : Nat → Int → Option (Ex Int Unit)) (p : Nat → α → Option Bool) (xs : List α) (P : α → Bool) (hlen : xs.length < 9223372036854775808)
    (hL : ∀ k i, L (k + 1) i = if (decide (i < (xs.length : Int))) = true then (if 0 ≤ i ∧ i < (xs.length : Int) then ((p k (rd xs i)).bind fun b => if b = true then some (Ex.ret i) else L k (w64 (i + 1))) else none) else some (Ex.go ()))
    (hp : ∀ x ∈ xs, EvP (fun k => p k x) (· = P x)) :
    EvP (fun k => L k 0) (fun r => (∃ j : Nat, r = Ex.ret (j : Int) ∧ xs.any P = true) ∨ (r = Ex.go () ∧ xs.any P = false)) := by
  have := for_up (fun k (_ : Unit) i => L k i) xs.length (fun i _ => ∀ j (h : j < xs.length), j < i → P xs[j] = false)
    (fun r => (∃ j : Nat, r = Ex.ret (j : Int) ∧ xs.any P = true) ∨ (r = Ex.go () ∧ xs.any P = false)) ?_ ?_ (i := 0) (s := ()) (Nat.zero_le _) (fun j _ h => absurd h (by omega))
  · exact this
  · intro i s hi hI ih
    simp only [hL]
    refine EvP.ifT (by simpa using hi) (EvP.ifT ⟨by omega, by omega⟩ ?_)
    refine EvP.bind1 (hp _ (by rw [rd_eq hi]; exact List.getElem_mem _)) ?_
    refine EvP.iteD (fun hb => EvP.ret (.inl ⟨i, rfl, ?_⟩)) fun hb => ?_
    · rw [rd_eq hi] at hb
      exact List.any_eq_true.2 ⟨_, List.getElem_mem _, hb⟩
    · rw [w64_succ hi hlen]
      refine ih () fun j h hj => ?_
      rcases Nat.lt_or_ge j i with h1 | h1
      · exact hI j h h1
      · obtain rfl : j = i := by omega
        rwa [rd_eq hi] at hb
  · intro s hI
    simp only [hL]
    refine EvP.ifF (by simp) (EvP.ret (.inr ⟨rfl, ?_⟩))
    rw [List.any_eq_false]
    intro x hx
    obtain ⟨j, hj, rfl⟩ := List.getElem_of_mem hx
    simp [hI j hj hj]
/-- The first place at which something is found, and which. -/
theorem search_idx {α : Type} [Inhabited α] (L : Nat → Int → Option (Ex Int Unit)) (p : Nat → α → Option Bool) (xs : List α) (P : α → Bool) (hlen : xs.length < 9223372036854775808)
    (hL : ∀ k i, L (k + 1) i = if (decide (i < (xs.length : Int))) = true then (if 0 ≤ i ∧ i < (xs.length : Int) then ((p k (rd xs i)).bind fun b => if b = true then some (Ex.ret i) else L k (w64 (i + 1))) else none) else some (Ex.go ()))
    (hp : ∀ x ∈ xs, EvP (fun k => p k x) (· = P x)) :
    EvP (fun k => L k 0) (· = if xs.any P = true then Ex.ret (xs.findIdx P : Int) else Ex.go ()) := by
  have := for_up (fun k (_ : Unit) i => L k i) xs.length (fun i _ => ∀ j (h : j < xs.length), j < i → P xs[j] = false)
    (· = if xs.any P = true then Ex.ret (xs.findIdx P : Int) else Ex.go ()) ?_ ?_ (i := 0) (s := ()) (Nat.zero_le _) (fun j _ h => absurd h (by omega))
  · exact this
  · intro i s hi hI ih
    simp only [hL]
    refine EvP.ifT (by simpa using hi) (EvP.ifT ⟨by omega, by omega⟩ ?_)
    refine EvP.bind1 (hp _ (by rw [rd_eq hi]; exact List.getElem_mem _)) ?_
    refine EvP.iteD (fun hb => EvP.ret ?_) fun hb => ?_
    · rw [rd_eq hi] at hb
      have h1 : xs.any P = true := List.any_eq_true.2 ⟨_, List.getElem_mem _, hb⟩
      have h2 : xs.findIdx P = i := (List.findIdx_eq hi).2 ⟨hb, fun j hj => hI j (by omega) hj⟩
      rw [if_pos h1, h2]
    · rw [w64_succ hi hlen]
      refine ih () fun j h hj => ?_
      rcases Nat.lt_or_ge j i with h1 | h1
      · exact hI j h h1
      · obtain rfl : j = i := by omega
        rwa [rd_eq hi] at hb
  · intro s hI
    simp only [hL]
    have h1 : ¬ xs.any P = true := by
      rw [List.any_eq_true]
      rintro ⟨x, hx, h2⟩
      obtain ⟨j, hj, rfl⟩ := List.getElem_of_mem hx
      rw [hI j hj hj] at h2; cases h2
    refine EvP.ifF (by simp) (EvP.ret ?_)
    rw [if_neg h1]
/-- Its index, or -1. -/
def fidx {α : Type} (P : α → Bool) (xs : List α) : Int := if xs.any P = true then (xs.findIdx P : Int) else -1
theorem fidx_pos {α : Type} {P : α → Bool} {xs : List α} : 0 ≤ fidx P xs ↔ xs.any P = true := by
  unfold fidx; split <;> simp [*]
theorem fidx_lt {α : Type} {P : α → Bool} {xs : List α} (h : xs.any P = true) : ∃ i : Nat, ∃ hi : i < xs.length, fidx P xs = (i : Int) ∧ P xs[i] = true ∧ ∀ j (hj : j < i), P xs[j] = false := by
  have hi : xs.findIdx P < xs.length := List.findIdx_lt_length_of_exists (by simpa using h)
  exact ⟨xs.findIdx P, hi, by unfold fidx; rw [if_pos h], List.findIdx_getElem, fun j hj => by simpa using List.not_of_lt_findIdx hj⟩
theorem index_ev {α : Type} [Inhabited α] (L : Nat → Int → Option (Ex Int Unit)) (c : Nat → Option Int) (p : Nat → α → Option Bool) (xs : List α) (P : α → Bool) (hlen : xs.length < 9223372036854775808)
    (hL : ∀ k i, L (k + 1) i = if (decide (i < (xs.length : Int))) = true then (if 0 ≤ i ∧ i < (xs.length : Int) then ((p k (rd xs i)).bind fun b => if b = true then some (Ex.ret i) else L k (w64 (i + 1))) else none) else some (Ex.go ()))
    (hc : ∀ k, c k = some (-1)) (hp : ∀ x ∈ xs, EvP (fun k => p k x) (· = P x)) :
    EvP (fun k => (L k 0).bind fun x => Ex.on x (fun r => some r) (fun _ => c k)) (· = fidx P xs) := by
  refine EvP.bind1 (search_idx L p xs P hlen hL hp) ?_
  unfold fidx
  by_cases h : xs.any P = true
  · simp only [if_pos h, Ex.on]; exact EvP.ret rfl
  · simp only [if_neg h, Ex.on, hc]; exact EvP.ret rfl
end Go.Kw
